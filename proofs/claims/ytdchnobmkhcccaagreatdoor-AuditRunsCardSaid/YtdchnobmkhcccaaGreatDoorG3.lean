/- Functions of the program, told as plain functions of what they are called with, each with the proof that it is what the code does (printed by a program of the prover). -/
import Derived.Test.YtdchnobmkhcccaaGreatDoorG2
namespace Go.Cn
open Go.Proofs
set_option maxRecDepth 100000
set_option linter.unusedVariables false
/- (*concord/core.Core).open -/
noncomputable def l220 : List (Nat × (List V → HT → Option J)) := [(128, f128), (133, f133), (134, f134), (200, f200)]
noncomputable def t220 : Fns := tab l220
noncomputable def f220_0 (x0 : V) (x3 : V) (x24 : V) (h : HT) : Option J := tstv x24 (ret1 (.bool false) h)
  (bndV (kNilc [x0]) fun x27 =>
  bndV (kFa 2 [x27]) fun x28 =>
  bndV (qLd h none [x28]) fun x29 =>
  bndV (qLd h (some 2) [x3]) fun x30 =>
  bndN (kAlloc [(.int .i64 (.ofNat (nat_lit 0))), (.int .i64 (.ofNat (nat_lit 0))), (.int .i64 (.ofNat (nat_lit 0))), (.int .i64 (.ofNat (nat_lit 0))), (.int .i64 (.ofNat (nat_lit 0))), (.int .i64 (.ofNat (nat_lit 0))), (.int .i64 (.ofNat (nat_lit 0))), (.int .i64 (.ofNat (nat_lit 0))), (.str (sb [])), (.str (sb [])), (.str (sb [])), (.str (sb [])), (.int .i64 (.ofNat (nat_lit 0))), (.int .i64 (.ofNat (nat_lit 0))), (.int .i64 (.ofNat (nat_lit 0))), (.int .i64 (.ofNat (nat_lit 0))), (.int .i64 (.ofNat (nat_lit 0))), (.int .i64 (.ofNat (nat_lit 0))), (.int .i64 (.ofNat (nat_lit 0))), (.int .i64 (.ofNat (nat_lit 0))), (.bool false)] []) h fun x5 h =>
  bndC (f200 [x29, x30] h) fun x31 h =>
  bndV (kExt 0 [x31]) fun x32 =>
  bndV (kExt 1 [x31]) fun x33 =>
  bndE (dSt h 21 [x5, x32]) h fun _ h =>
  bndV (kFa 0 [x5]) fun x34 =>
  bndV (qLd h none [x34]) fun x35 =>
  bndV (kBin .neq [x35, (.int .i64 (.ofNat (nat_lit 3)))]) fun x36 =>
  ret1 x36 h)
noncomputable def f220_1 (x0 : V) (x3 : V) (x8 : V) (h : HT) : Option J := bndV (kUn .not [x8]) fun x9 =>
  bndC (gsel x9 false (retV (kMov [x0]) h) h) fun x11 h =>
  bndC (gsel x9 false (retV (kFa 0 [x3]) h) h) fun x12 h =>
  bndC (gsel x9 false (retV (qLd h none [x12]) h) h) fun x13 h =>
  bndC (gsel x9 false (f133 [x11, x13] h) h) fun x14 h =>
  bndC (gsel x9 false (retV (kUn .not [x14]) h) h) fun x15 h =>
  bndV (kPick [x9, (.bool true), x15]) fun x16 =>
  bndC (gsel x16 false (retV (kMov [x0]) h) h) fun x18 h =>
  bndC (gsel x16 false (retV (kNilc [x18]) h) h) fun x19 h =>
  bndC (gsel x16 false (retV (kFa 2 [x19]) h) h) fun x20 h =>
  bndC (gsel x16 false (retV (qLd h none [x20]) h) h) fun x21 h =>
  bndC (gsel x16 false (retV (qLd h (some 2) [x3]) h) h) fun x22 h =>
  bndC (gsel x16 false (f134 [x21, x22] h) h) fun x23 h =>
  bndV (kPick [x16, (.bool true), x23]) fun x24 =>
  (f220_0 x0 x3 x24 h)
noncomputable def f220 (vs : List V) (h : HT) : Option J := unc vs fun x0 vs =>
  unc vs fun x1 vs =>
  bndN (kBox [x1]) h fun x3 h =>
  bndV (qLd h (some 2) [x3]) fun x7 =>
  bndC (f128 [x7] h) fun x8 h =>
  (f220_1 x0 x3 x8 h)
def a220 : List Ann := [.no]
theorem e220 : f220 = evFun Tryz.prog 220 2 a220 t220 := by kernel_rfl
theorem o220 : FnOk Tryz.prog 220 f220 := .of hmO (show enters Tryz.prog 220 = true by kernel_rfl) e220 (.cons o128 (.cons o133 (.cons o134 (.cons o200 (.nil)))))

/- slices.Insert[[]*concord/core.wish,*concord/core.wish] -/
noncomputable def l268 : List (Nat × (List V → HT → Option J)) := []
noncomputable def t268 : Fns := tab l268
noncomputable def f268_0 (x0 : V) (x1 : V) (x2 : V) (x14 : V) (x19 : V) (x22 : V) (h : HT) : Option J := tstv x22 (bndE (dApp h 1 8 [x0, x2]) h fun x25 h =>
  ret1 x25 h)
  (bndV (kBin .add [x19, x14]) fun x28 =>
  bndV (kCapS [x0]) fun x30 =>
  bndV (kBin .gtr [x28, x30]) fun x31 =>
  tstv x31 (bndV (kSlS 1 false true [x0, x1]) fun x34 =>
  bndV (kBin .add [x19, x14]) fun x37 =>
  bndV (kBin .sub [x37, x1]) fun x39 =>
  none)
  (bndV (kBin .add [x19, x14]) fun x59 =>
  bndV (kSlS 1 false true [x0, x59]) fun x60 =>
  bndV (kBin .add [x1, x14]) fun x65 =>
  bndV (kSlS 1 true false [x60, x65]) fun x66 =>
  none))
noncomputable def f268 (vs : List V) (h : HT) : Option J := unc vs fun x0 vs =>
  unc vs fun x1 vs =>
  unc vs fun x2 vs =>
  bndV (kSlS 1 true false [x0, x1]) fun x12 =>
  bndV (kLenS [x2]) fun x14 =>
  bndV (kBin .eql [x14, (.int .i64 (.ofNat (nat_lit 0)))]) fun x16 =>
  tstv x16 (ret1 x0 h)
  (bndV (kLenS [x0]) fun x19 =>
  bndV (kBin .eql [x1, x19]) fun x22 =>
  (f268_0 x0 x1 x2 x14 x19 x22 h))
def a268 : List Ann := [.no, .no, .no, .no]
theorem e268 : f268 = evFun Tryz.prog 268 3 a268 t268 := by kernel_rfl
theorem o268 : FnOk Tryz.prog 268 f268 := .of hmO (show enters Tryz.prog 268 = true by kernel_rfl) e268 (.nil)

/- (*concord/core.Core).Want -/
noncomputable def l205 : List (Nat × (List V → HT → Option J)) := [(210, f210), (220, f220), (268, f268)]
noncomputable def t205 : Fns := tab l205
noncomputable def f205_0 (rc : List V → HT → Option J) (x0 : V) (x3 : V) (x5 : V) (x30 : V) (x33 : V) (h : HT) : Option J := bndC (gsel x30 true (retV (kFa 5 [x33]) h) h) fun x34 h =>
  bndC (gsel x30 true (retV (qLd h none [x34]) h) h) fun x35 h =>
  bndC (gsel x30 true (retV (kMov [x5]) h) h) fun x36 h =>
  bndC (gsel x30 true (retV (kIaS 1 [x35, x36]) h) h) fun x37 h =>
  bndC (gsel x30 true (retV (qLd h none [x37]) h) h) fun x38 h =>
  bndC (gsel x30 true (retV (kNilc [x38]) h) h) fun x39 h =>
  bndC (gsel x30 true (retV (kFa 0 [x39]) h) h) fun x40 h =>
  bndC (gsel x30 true (retV (qLd h (some 2) [x40]) h) h) fun x41 h =>
  bndC (gsel x30 true (retV (qLd h (some 2) [x3]) h) h) fun x42 h =>
  bndC (gsel x30 true (noF [x41, x42] h) h) fun x43 h =>
  bndV (kPick [x30, x43, (.bool false)]) fun x44 =>
  tstv x44 (bndV (kBin .add [x5, (.int .i64 (.ofNat (nat_lit 1)))]) fun x46 =>
  rc [x0, x3, x46] h)
  (some ⟨0, [x0, x3, x5], h⟩)
noncomputable def f205_1 (vs : List V) (h : HT) : Option J := unc vs fun x0 vs =>
  unc vs fun x3 vs =>
  unc vs fun x5 vs =>
  bndV (kNilc [x0]) fun x49 =>
  bndV (kFa 5 [x49]) fun x50 =>
  bndV (qLd h none [x50]) fun x51 =>
  bndV (qLd h (some 2) [x3]) fun x53 =>
  bndV (kBld [(.int .i64 (.ofNat (nat_lit 0))), (.int .i64 (.ofNat (nat_lit 0))), (.int .i64 (.ofNat (nat_lit 0))), (.int .i64 (.ofNat (nat_lit 0))), (.int .i64 (.ofNat (nat_lit 0)))] [(0, 2)] [x53]) fun x54 =>
  bndN (kBox [x54]) h fun x55 h =>
  bndN (kBsl 1 1 [(.ptr none)] [(0, 1)] [x55]) h fun x56 h =>
  bndC (f268 [x51, x5, x56] h) fun x57 h =>
  bndV (kNilc [x0]) fun x58 =>
  bndV (kFa 5 [x58]) fun x59 =>
  bndE (dSt h 1 [x59, x57]) h fun _ h =>
  ret1 (.bool true) h
noncomputable def f205_2 (x0 : V) (x3 : V) (x23 : V) (h : HT) : Option J := tstv x23 (ret1 (.bool false) h)
  (bndJ (loopF (fun rc vs h => unc vs fun x0 vs =>
  unc vs fun x3 vs =>
  unc vs fun x5 vs =>
  bndV (kNilc [x0]) fun x26 =>
  bndV (kFa 5 [x26]) fun x27 =>
  bndV (qLd h none [x27]) fun x28 =>
  bndV (kLenS [x28]) fun x29 =>
  bndV (kBin .lss [x5, x29]) fun x30 =>
  bndC (gsel x30 true (retV (kMov [x0]) h) h) fun x32 h =>
  bndC (gsel x30 true (retV (kNilc [x32]) h) h) fun x33 h =>
  (f205_0 rc x0 x3 x5 x30 x33 h)) 1000000 [x0, x3, (.int .i64 (.ofNat (nat_lit 0)))] h)
  fun j vs h => (f205_1 vs h))
noncomputable def f205_3 (x0 : V) (x3 : V) (x7 : V) (h : HT) : Option J := bndC (f220 [x0, x7] h) fun x8 h =>
  bndV (kUn .not [x8]) fun x9 =>
  bndC (gsel x9 false (retV (kMov [x0]) h) h) fun x11 h =>
  bndC (gsel x9 false (retV (qLd h (some 2) [x3]) h) h) fun x12 h =>
  bndC (gsel x9 false (f210 [x11, x12] h) h) fun x13 h =>
  bndC (gsel x9 false (retV (kEqN true [x13, (.ptr none)]) h) h) fun x14 h =>
  bndV (kPick [x9, (.bool true), x14]) fun x15 =>
  bndC (gsel x15 false (retV (kMov [x0]) h) h) fun x17 h =>
  bndC (gsel x15 false (retV (kNilc [x17]) h) h) fun x18 h =>
  bndC (gsel x15 false (retV (kFa 5 [x18]) h) h) fun x19 h =>
  bndC (gsel x15 false (retV (qLd h none [x19]) h) h) fun x20 h =>
  bndC (gsel x15 false (retV (kLenS [x20]) h) h) fun x21 h =>
  bndC (gsel x15 false (retV (kBin .geq [x21, (.int .i64 (.ofNat (nat_lit 256)))]) h) h) fun x22 h =>
  bndV (kPick [x15, (.bool true), x22]) fun x23 =>
  (f205_2 x0 x3 x23 h)
noncomputable def f205 (vs : List V) (h : HT) : Option J := unc vs fun x0 vs =>
  unc vs fun x1 vs =>
  bndN (kBox [x1]) h fun x3 h =>
  bndV (qLd h (some 2) [x3]) fun x7 =>
  (f205_3 x0 x3 x7 h)
def a205 : List Ann := [.no, .no, .loop [0, 3, 5] [((.exit 0), [0, 3, 5])], .no, .no]
theorem e205 : f205 = evFun Tryz.prog 205 2 a205 t205 := by kernel_rfl
theorem o205 : FnOk Tryz.prog 205 f205 := .of hmO (show enters Tryz.prog 205 = true by kernel_rfl) e205 (.cons o210 (.cons o220 (.cons o268 (.nil))))

/- slices.Clone[[]*concord/core.lead,*concord/core.lead] -/
noncomputable def l218 : List (Nat × (List V → HT → Option J)) := []
noncomputable def t218 : Fns := tab l218

noncomputable def f218 (vs : List V) (h : HT) : Option J := unc vs fun x0 vs =>
  bndV (kEqN false [x0, (.slice none 0 true 0)]) fun x4 =>
  tstv x4 (ret1 (.slice none 0 true 0) h)
  (bndN (kBsl 1 0 [] [] []) h fun x5 h =>
  bndE (dApp h 1 8 [x5, x0]) h fun x7 h =>
  ret1 x7 h)
def a218 : List Ann := [.no]
theorem e218 : f218 = evFun Tryz.prog 218 1 a218 t218 := by kernel_rfl
theorem o218 : FnOk Tryz.prog 218 f218 := .of hmO (show enters Tryz.prog 218 = true by kernel_rfl) e218 (.nil)

/- slices.Clone[[]*concord/core.wish,*concord/core.wish] -/
noncomputable def l219 : List (Nat × (List V → HT → Option J)) := []
noncomputable def t219 : Fns := tab l219

noncomputable def f219 (vs : List V) (h : HT) : Option J := unc vs fun x0 vs =>
  bndV (kEqN false [x0, (.slice none 0 true 0)]) fun x4 =>
  tstv x4 (ret1 (.slice none 0 true 0) h)
  (bndN (kBsl 1 0 [] [] []) h fun x5 h =>
  bndE (dApp h 1 8 [x5, x0]) h fun x7 h =>
  ret1 x7 h)
def a219 : List Ann := [.no]
theorem e219 : f219 = evFun Tryz.prog 219 1 a219 t219 := by kernel_rfl
theorem o219 : FnOk Tryz.prog 219 f219 := .of hmO (show enters Tryz.prog 219 = true by kernel_rfl) e219 (.nil)

/- (*concord/core.Core).Tick$1 -/
noncomputable def l222 : List (Nat × (List V → HT → Option J)) := []
noncomputable def t222 : Fns := tab l222

noncomputable def f222 (vs : List V) (h : HT) : Option J := unc vs fun x0 vs =>
  unc vs fun x1 vs =>
  bndV (qLd h none [x1]) fun x5 =>
  bndV (kEqP h.heap false [x0, x5]) fun x6 =>
  ret1 x6 h
def a222 : List Ann := []
theorem e222 : f222 = evFun Tryz.prog 222 2 a222 t222 := by kernel_rfl
theorem o222 : FnOk Tryz.prog 222 f222 := .of hmO (show enters Tryz.prog 222 = true by kernel_rfl) e222 (.nil)

/- slices.IndexFunc[[]*concord/core.wish,*concord/core.wish] -/
noncomputable def l282 : List (Nat × (List V → HT → Option J)) := [(222, f222)]
noncomputable def t282 : Fns := tab l282
noncomputable def f282_0 (x0 : V) (x1 : V) (x7 : V) (h : HT) : Option J := loopF (fun rc vs h => unc vs fun x0 vs =>
  unc vs fun x1 vs =>
  unc vs fun x7 vs =>
  unc vs fun x8 vs =>
  bndV (kBin .lss [x8, x7]) fun x9 =>
  tstv x9 (bndV (kIaS 1 [x0, x8]) fun x14 =>
  bndV (qLd h none [x14]) fun x15 =>
  bndC (callvT t282 [x1, x15] h) fun x16 h =>
  tstv x16 (some ⟨1, [x8], h⟩)
  (bndV (kBin .add [x8, (.int .i64 (.ofNat (nat_lit 1)))]) fun x18 =>
  rc [x0, x1, x7, x18] h))
  (some ⟨0, [], h⟩)) 1000000 [x0, x1, x7, (.int .i64 (.ofNat (nat_lit 0)))] h
noncomputable def f282 (vs : List V) (h : HT) : Option J := unc vs fun x0 vs =>
  unc vs fun x1 vs =>
  bndV (kLenS [x0]) fun x7 =>
  bndJ ((f282_0 x0 x1 x7 h))
  fun j vs h => nsw j (ret1 (.int .i64 (.negSucc (nat_lit 0))) h)
  fun j => unc vs fun x4 vs =>
  ret1 x4 h
def a282 : List Ann := [.no, .loop [0, 1, 7, 8] [((.exit 0), []), (.ret, [4])], .no, .no, .no]
theorem e282 : f282 = evFun Tryz.prog 282 2 a282 t282 := by kernel_rfl
theorem o282 : FnOk Tryz.prog 282 f282 := .of hmO (show enters Tryz.prog 282 = true by kernel_rfl) e282 (.cons o222 (.nil))

/- slices.DeleteFunc[[]*concord/core.wish,*concord/core.wish] -/
noncomputable def l221 : List (Nat × (List V → HT → Option J)) := [(282, f282)]
noncomputable def t221 : Fns := tab l221
noncomputable def f221_0 (rc : List V → HT → Option J) (x0 : V) (x1 : V) (x5 : V) (x6 : V) (x25 : V) (h : HT) : Option J := bndC (callvT t221 [x1, x25] h) fun x28 h =>
  bndV (kUn .not [x28]) fun x29 =>
  bndJ (tstv x29 (bndV (kIaS 1 [x0, x5]) fun x33 =>
  bndE (dSt h 1 [x33, x25]) h fun _ h =>
  bndV (kBin .add [x5, (.int .i64 (.ofNat (nat_lit 1)))]) fun x35 =>
  some ⟨0, [x0, x1, x35, x6], h⟩)
  (some ⟨0, [x0, x1, x5, x6], h⟩))
  fun j vs h => unc vs fun x0 vs =>
  unc vs fun x1 vs =>
  unc vs fun x5 vs =>
  unc vs fun x6 vs =>
  bndV (kBin .add [x6, (.int .i64 (.ofNat (nat_lit 1)))]) fun x21 =>
  rc [x0, x1, x5, x21] h
noncomputable def f221_1 (x0 : V) (x1 : V) (x10 : V) (x15 : V) (h : HT) : Option J := bndJ (loopF (fun rc vs h => unc vs fun x0 vs =>
  unc vs fun x1 vs =>
  unc vs fun x5 vs =>
  unc vs fun x6 vs =>
  bndV (kLenS [x0]) fun x18 =>
  bndV (kBin .lss [x6, x18]) fun x19 =>
  tstv x19 (bndV (kIaS 1 [x0, x6]) fun x24 =>
  bndV (qLd h none [x24]) fun x25 =>
  (f221_0 rc x0 x1 x5 x6 x25 h))
  (some ⟨0, [x0, x5], h⟩)) 1000000 [x0, x1, x10, x15] h)
  fun j vs h => unc vs fun x0 vs =>
  unc vs fun x5 vs =>
  bndV (kSlS 1 true false [x0, x5]) fun x38 =>
  bndE (dClr h [(.ptr none)] [x38]) h fun _ h =>
  bndV (kSlS 1 false true [x0, x5]) fun x41 =>
  ret1 x41 h
noncomputable def f221 (vs : List V) (h : HT) : Option J := unc vs fun x0 vs =>
  unc vs fun x1 vs =>
  bndC (f282 [x0, x1] h) fun x10 h =>
  bndV (kBin .eql [x10, (.int .i64 (.negSucc (nat_lit 0)))]) fun x12 =>
  tstv x12 (ret1 x0 h)
  (bndV (kBin .add [x10, (.int .i64 (.ofNat (nat_lit 1)))]) fun x15 =>
  (f221_1 x0 x1 x10 x15 h))
def a221 : List Ann := [.no, .no, .loop [0, 1, 5, 6] [((.exit 0), [0, 5])], .no, .no, .join [(.normal, [0, 1, 5, 6])]]
theorem e221 : f221 = evFun Tryz.prog 221 2 a221 t221 := by kernel_rfl
theorem o221 : FnOk Tryz.prog 221 f221 := .of hmO (show enters Tryz.prog 221 = true by kernel_rfl) e221 (.cons o282 (.nil))

/- concord/inst.Next -/
noncomputable def l283 : List (Nat × (List V → HT → Option J)) := []
noncomputable def t283 : Fns := tab l283

noncomputable def f283 (vs : List V) (h : HT) : Option J := unc vs fun x0 vs =>
  unc vs fun x1 vs =>
  bndN (kBox [x0]) h fun x2 h =>
  bndN (kAlloc [(.int .i64 (.ofNat (nat_lit 0))), (.int .i64 (.ofNat (nat_lit 0)))] []) h fun x4 h =>
  bndV (kFa 0 [x2]) fun x5 =>
  bndV (qLd h none [x5]) fun x6 =>
  bndV (kBin .add [x6, (.int .i64 (.ofNat (nat_lit 1)))]) fun x7 =>
  bndV (kBld [(.int .i64 (.ofNat (nat_lit 0))), (.int .i64 (.ofNat (nat_lit 0)))] [(0, 1), (1, 1)] [x7, x1]) fun x9 =>
  bndE (dSt h 2 [x4, x9]) h fun _ h =>
  bndV (qLd h (some 2) [x4]) fun x900000 =>
  ret1 x900000 h
def a283 : List Ann := []
theorem e283 : f283 = evFun Tryz.prog 283 2 a283 t283 := by kernel_rfl
theorem o283 : FnOk Tryz.prog 283 f283 := .of hmO (show enters Tryz.prog 283 = true by kernel_rfl) e283 (.nil)

/- (*concord/core.Core).Recover -/
noncomputable def l223 : List (Nat × (List V → HT → Option J)) := [(122, f122), (123, f123), (129, f129), (200, f200), (204, f204), (210, f210), (220, f220), (283, f283)]
noncomputable def t223 : Fns := tab l223
noncomputable def f223_0 (x0 : V) (x3 : V) (x5 : V) (x72 : V) (h : HT) : Option J := tstv x72 (ret1 (.bool false) h)
  (bndV (qLd h (some 2) [x3]) fun x74 =>
  bndV (kFa 1 [x5]) fun x75 =>
  bndV (qLd h (some 2) [x75]) fun x76 =>
  bndV (kNilc [x0]) fun x78 =>
  bndV (kFa 1 [x78]) fun x79 =>
  bndV (qLd h none [x79]) fun x80 =>
  bndV (qLd h (some 21) [x5]) fun x81 =>
  bndV (kBld [(.int .i64 (.ofNat (nat_lit 0))), (.int .i64 (.ofNat (nat_lit 0))), (.int .i64 (.ofNat (nat_lit 0))), (.int .i64 (.ofNat (nat_lit 0))), (.int .i64 (.ofNat (nat_lit 0))), (.int .i64 (.ofNat (nat_lit 0))), (.int .i64 (.ofNat (nat_lit 0))), (.int .i64 (.ofNat (nat_lit 0))), (.int .i64 (.ofNat (nat_lit 0))), (.str (sb [])), (.str (sb [])), (.str (sb [])), (.str (sb [])), (.int .i64 (.ofNat (nat_lit 0))), (.int .i64 (.ofNat (nat_lit 0))), (.int .i64 (.ofNat (nat_lit 0))), (.int .i64 (.ofNat (nat_lit 0))), (.int .i64 (.ofNat (nat_lit 0))), (.int .i64 (.ofNat (nat_lit 0))), (.int .i64 (.ofNat (nat_lit 0))), (.int .i64 (.ofNat (nat_lit 0))), (.bool false)] [(0, 1), (1, 21)] [x80, x81]) fun x82 =>
  bndN (kBsl 22 1 [(.int .i64 (.ofNat (nat_lit 0))), (.int .i64 (.ofNat (nat_lit 0))), (.int .i64 (.ofNat (nat_lit 0))), (.int .i64 (.ofNat (nat_lit 0))), (.int .i64 (.ofNat (nat_lit 0))), (.int .i64 (.ofNat (nat_lit 0))), (.int .i64 (.ofNat (nat_lit 0))), (.int .i64 (.ofNat (nat_lit 0))), (.int .i64 (.ofNat (nat_lit 0))), (.str (sb [])), (.str (sb [])), (.str (sb [])), (.str (sb [])), (.int .i64 (.ofNat (nat_lit 0))), (.int .i64 (.ofNat (nat_lit 0))), (.int .i64 (.ofNat (nat_lit 0))), (.int .i64 (.ofNat (nat_lit 0))), (.int .i64 (.ofNat (nat_lit 0))), (.int .i64 (.ofNat (nat_lit 0))), (.int .i64 (.ofNat (nat_lit 0))), (.int .i64 (.ofNat (nat_lit 0))), (.bool false)] [(0, 22)] [x82]) h fun x83 h =>
  bndV (kBld [(.int .i64 (.ofNat (nat_lit 0))), (.int .i64 (.ofNat (nat_lit 0))), (.int .i64 (.ofNat (nat_lit 0))), (.int .i64 (.ofNat (nat_lit 0))), (.int .i64 (.ofNat (nat_lit 0))), (.bool false), (.int .i64 (.ofNat (nat_lit 0))), (.int .i64 (.ofNat (nat_lit 0))), (.int .i64 (.ofNat (nat_lit 0))), (.str (sb [])), (.str (sb [])), (.str (sb [])), (.str (sb [])), (.int .i64 (.ofNat (nat_lit 0))), (.int .i64 (.ofNat (nat_lit 0))), (.int .i64 (.ofNat (nat_lit 0))), (.int .i64 (.ofNat (nat_lit 0))), (.int .i64 (.ofNat (nat_lit 0))), (.int .i64 (.ofNat (nat_lit 0))), (.int .i64 (.ofNat (nat_lit 0))), (.int .i64 (.ofNat (nat_lit 0))), (.int .i64 (.ofNat (nat_lit 0))), (.int .i64 (.ofNat (nat_lit 0))), (.int .i64 (.ofNat (nat_lit 0))), (.int .i64 (.ofNat (nat_lit 0))), (.int .i64 (.ofNat (nat_lit 0))), (.int .i64 (.ofNat (nat_lit 0))), (.int .i64 (.ofNat (nat_lit 0))), (.slice none 0 true 0), (.slice none 0 true 0), (.int .i64 (.ofNat (nat_lit 0))), (.int .i64 (.ofNat (nat_lit 0)))] [(0, 2), (2, 1), (3, 2), (29, 1)] [x74, (.int .i64 (.ofNat (nat_lit 2))), x76, x83]) fun x84 =>
  bndN (kBox [x84]) h fun x85 h =>
  bndC (f123 [x0, x85] h) fun x86 h =>
  ret1 (.bool true) h)
noncomputable def f223_1 (x0 : V) (x3 : V) (x5 : V) (x55 : V) (x58 : V) (h : HT) : Option J := bndV (qLd h none [x58]) fun x59 =>
  bndC (f283 [x55, x59] h) fun x60 h =>
  bndV (kFa 1 [x5]) fun x61 =>
  bndE (dSt h 2 [x61, x60]) h fun _ h =>
  bndV (kFa 1 [x5]) fun x62 =>
  bndV (qLd h (some 2) [x62]) fun x63 =>
  bndC (f129 [x63] h) fun x64 h =>
  bndV (kUn .not [x64]) fun x65 =>
  bndC (gsel x65 false (retV (kMov [x0]) h) h) fun x67 h =>
  bndC (gsel x65 false (retV (qLd h (some 2) [x3]) h) h) fun x68 h =>
  bndC (gsel x65 false (retV (qLd h (some 21) [x5]) h) h) fun x69 h =>
  bndC (gsel x65 false (f122 [x67, x68, x69] h) h) fun x70 h =>
  bndC (gsel x65 false (retV (kUn .not [x70]) h) h) fun x71 h =>
  bndV (kPick [x65, (.bool true), x71]) fun x72 =>
  (f223_0 x0 x3 x5 x72 h)
noncomputable def f223_2 (x0 : V) (x3 : V) (x5 : V) (x7 : V) (x40 : V) (x50 : V) (h : HT) : Option J := bndJ (tstv x50 (bndV (kNilc [x40]) fun x52 =>
  bndV (kFa 3 [x52]) fun x53 =>
  bndV (qLd h (some 2) [x53]) fun x54 =>
  bndE (dSt h 2 [x7, x54]) h fun _ h =>
  some ⟨0, [x0, x3, x5, x7], h⟩)
  (some ⟨0, [x0, x3, x5, x7], h⟩))
  fun j vs h => unc vs fun x0 vs =>
  unc vs fun x3 vs =>
  unc vs fun x5 vs =>
  unc vs fun x7 vs =>
  bndV (qLd h (some 2) [x7]) fun x55 =>
  bndV (kNilc [x0]) fun x57 =>
  bndV (kFa 1 [x57]) fun x58 =>
  (f223_1 x0 x3 x5 x55 x58 h)
noncomputable def f223_3 (x0 : V) (x3 : V) (x5 : V) (h : HT) : Option J := bndV (kFa 1 [x5]) fun x36 =>
  bndV (qLd h (some 2) [x36]) fun x37 =>
  bndN (kAlloc [(.int .i64 (.ofNat (nat_lit 0))), (.int .i64 (.ofNat (nat_lit 0)))] []) h fun x7 h =>
  bndE (dSt h 2 [x7, x37]) h fun _ h =>
  bndV (qLd h (some 2) [x3]) fun x39 =>
  bndC (f210 [x0, x39] h) fun x40 h =>
  bndV (kEqN true [x40, (.ptr none)]) fun x42 =>
  bndC (gsel x42 true (retV (qLd h (some 2) [x7]) h) h) fun x44 h =>
  bndC (gsel x42 true (retV (kMov [x40]) h) h) fun x45 h =>
  bndC (gsel x42 true (retV (kNilc [x45]) h) h) fun x46 h =>
  bndC (gsel x42 true (retV (kFa 3 [x46]) h) h) fun x47 h =>
  bndC (gsel x42 true (retV (qLd h (some 2) [x47]) h) h) fun x48 h =>
  bndC (gsel x42 true (f204 [x44, x48] h) h) fun x49 h =>
  bndV (kPick [x42, x49, (.bool false)]) fun x50 =>
  (f223_2 x0 x3 x5 x7 x40 x50 h)
noncomputable def f223_4 (x0 : V) (x3 : V) (x12 : V) (x20 : V) (x23 : V) (h : HT) : Option J := bndC (gsel x20 true (retV (kEqN false [x23, (.ptr none)]) h) h) fun x24 h =>
  bndC (gsel x12 false (retV (kPick [x20, x24, (.bool false)]) h) h) fun x25 h =>
  bndV (kPick [x12, (.bool true), x25]) fun x26 =>
  tstv x26 (ret1 (.bool false) h)
  (bndV (kNilc [x0]) fun x29 =>
  bndV (kFa 2 [x29]) fun x30 =>
  bndV (qLd h none [x30]) fun x31 =>
  bndV (qLd h (some 2) [x3]) fun x32 =>
  bndN (kAlloc [(.int .i64 (.ofNat (nat_lit 0))), (.int .i64 (.ofNat (nat_lit 0))), (.int .i64 (.ofNat (nat_lit 0))), (.int .i64 (.ofNat (nat_lit 0))), (.int .i64 (.ofNat (nat_lit 0))), (.int .i64 (.ofNat (nat_lit 0))), (.int .i64 (.ofNat (nat_lit 0))), (.int .i64 (.ofNat (nat_lit 0))), (.str (sb [])), (.str (sb [])), (.str (sb [])), (.str (sb [])), (.int .i64 (.ofNat (nat_lit 0))), (.int .i64 (.ofNat (nat_lit 0))), (.int .i64 (.ofNat (nat_lit 0))), (.int .i64 (.ofNat (nat_lit 0))), (.int .i64 (.ofNat (nat_lit 0))), (.int .i64 (.ofNat (nat_lit 0))), (.int .i64 (.ofNat (nat_lit 0))), (.int .i64 (.ofNat (nat_lit 0))), (.bool false)] []) h fun x5 h =>
  bndC (f200 [x31, x32] h) fun x33 h =>
  bndV (kExt 0 [x33]) fun x34 =>
  bndV (kExt 1 [x33]) fun x35 =>
  bndE (dSt h 21 [x5, x34]) h fun _ h =>
  (f223_3 x0 x3 x5 h))
noncomputable def f223_5 (x0 : V) (x1 : V) (h : HT) : Option J := bndN (kBox [x1]) h fun x3 h =>
  bndV (qLd h (some 2) [x3]) fun x10 =>
  bndC (f220 [x0, x10] h) fun x11 h =>
  bndV (kUn .not [x11]) fun x12 =>
  bndC (gsel x12 false (retV (kMov [x0]) h) h) fun x14 h =>
  bndC (gsel x12 false (retV (kNilc [x14]) h) h) fun x15 h =>
  bndC (gsel x12 false (retV (kFa 4 [x15]) h) h) fun x16 h =>
  bndC (gsel x12 false (retV (qLd h none [x16]) h) h) fun x17 h =>
  bndC (gsel x12 false (retV (kLenS [x17]) h) h) fun x18 h =>
  bndC (gsel x12 false (retV (kBin .geq [x18, (.int .i64 (.ofNat (nat_lit 256)))]) h) h) fun x19 h =>
  bndC (gsel x12 false (retV (kMov [x19]) h) h) fun x20 h =>
  bndC (gsel x20 true (retV (kMov [x0]) h) h) fun x21 h =>
  bndC (gsel x20 true (retV (qLd h (some 2) [x3]) h) h) fun x22 h =>
  bndC (gsel x20 true (noF [x21, x22] h) h) fun x23 h =>
  (f223_4 x0 x3 x12 x20 x23 h)
noncomputable def f223 (vs : List V) (h : HT) : Option J := unc vs fun x0 vs =>
  unc vs fun x1 vs =>
  (f223_5 x0 x1 h)
def a223 : List Ann := [.no, .join [(.normal, [0, 3, 5, 7])], .no]
theorem e223 : f223 = evFun Tryz.prog 223 2 a223 t223 := by kernel_rfl
theorem o223 : FnOk Tryz.prog 223 f223 := .of hmO (show enters Tryz.prog 223 = true by kernel_rfl) e223 (.cons o122 (.cons o123 (.cons o129 (.cons o200 (.cons o204 (.cons o210 (.cons o220 (.cons o283 (.nil)))))))))

/- (*concord/core.Core).Tick -/
noncomputable def l146 : List (Nat × (List V → HT → Option J)) := [(199, f199), (200, f200), (205, f205), (207, f207), (218, f218), (219, f219), (220, f220), (221, f221), (223, f223)]
noncomputable def t146 : Fns := tab l146
noncomputable def f146_0 (x0 : V) (x15 : V) (x16 : V) (x17 : V) (x20 : V) (x33 : V) (x39 : V) (h : HT) : Option J := bndC (gsel x33 false (retV (kMov [x39]) h) h) fun x40 h =>
  bndC (gsel x40 true (retV (kMov [x0]) h) h) fun x41 h =>
  bndC (gsel x40 true (retV (kMov [x20]) h) h) fun x42 h =>
  bndC (gsel x40 true (noF [x41, x42, (.bool true)] h) h) fun x43 h =>
  bndC (gsel x33 false (retV (kPick [x40, x43, (.bool false)]) h) h) fun x44 h =>
  bndV (kPick [x33, (.bool true), x44]) fun x45 =>
  tstv x45 (some ⟨0, [x0, x15, x16, x17], h⟩)
  (bndV (kNilc [x20]) fun x50 =>
  bndV (kFa 21 [x50]) fun x51 =>
  bndV (qLd h (some 7) [x51]) fun x52 =>
  bndC (noF [x20] h) fun x48 h =>
  chk1 (sameE (qLd h (some 7) [x51]) x52) (bndC (noF [x0, x48, x52] h) fun x53 h =>
  some ⟨0, [x0, x15, x16, x17], h⟩))
noncomputable def f146_1 (x0 : V) (x15 : V) (x16 : V) (x17 : V) (x20 : V) (x24 : V) (h : HT) : Option J := bndV (kBin .add [x24, (.int .i64 (.ofNat (nat_lit 1)))]) fun x25 =>
  bndV (kNilc [x20]) fun x26 =>
  bndV (kFa 31 [x26]) fun x27 =>
  bndE (dSt h 1 [x27, x25]) h fun _ h =>
  bndV (kNilc [x20]) fun x29 =>
  bndV (kFa 31 [x29]) fun x30 =>
  bndV (qLd h none [x30]) fun x31 =>
  bndV (kBin .rem [x31, (.int .i64 (.ofNat (nat_lit 4)))]) fun x32 =>
  bndV (kBin .neq [x32, (.int .i64 (.ofNat (nat_lit 0)))]) fun x33 =>
  bndC (gsel x33 false (retV (kMov [x20]) h) h) fun x35 h =>
  bndC (gsel x33 false (retV (kNilc [x35]) h) h) fun x36 h =>
  bndC (gsel x33 false (retV (kFa 2 [x36]) h) h) fun x37 h =>
  bndC (gsel x33 false (retV (qLd h none [x37]) h) h) fun x38 h =>
  bndC (gsel x33 false (retV (kBin .eql [x38, (.int .i64 (.ofNat (nat_lit 0)))]) h) h) fun x39 h =>
  (f146_0 x0 x15 x16 x17 x20 x33 x39 h)
noncomputable def f146_2 (rc : List V → HT → Option J) (x0 : V) (x15 : V) (x16 : V) (x17 : V) (x18 : V) (h : HT) : Option J := tstv x18 (bndJ (bndV (kIaS 1 [x15, x17]) fun x19 =>
  bndV (qLd h none [x19]) fun x20 =>
  bndV (kNilc [x20]) fun x22 =>
  bndV (kFa 31 [x22]) fun x23 =>
  bndV (qLd h none [x23]) fun x24 =>
  (f146_1 x0 x15 x16 x17 x20 x24 h))
  fun j vs h => unc vs fun x0 vs =>
  unc vs fun x15 vs =>
  unc vs fun x16 vs =>
  unc vs fun x17 vs =>
  bndV (kBin .add [x17, (.int .i64 (.ofNat (nat_lit 1)))]) fun x54 =>
  rc [x0, x15, x16, x54] h)
  (some ⟨0, [x0], h⟩)
noncomputable def f146_3 (rc : List V → HT → Option J) (x0 : V) (x5 : V) (x59 : V) (x60 : V) (x61 : V) (x76 : V) (x78 : V) (x79 : V) (h : HT) : Option J := bndC (gsel x76 true (f207 [x78, x79] h) h) fun x80 h =>
  bndC (gsel x76 true (retV (kEqN false [x80, (.ptr none)]) h) h) fun x81 h =>
  bndV (kPick [x76, x81, (.bool false)]) fun x82 =>
  bndJ (tstv x82 (bndV (qLd h (some 2) [x5]) fun x84 =>
  bndC (f205 [x0, x84] h) fun x85 h =>
  some ⟨0, [x0, x59, x60, x61], h⟩)
  (some ⟨0, [x0, x59, x60, x61], h⟩))
  fun j vs h => unc vs fun x0 vs =>
  unc vs fun x59 vs =>
  unc vs fun x60 vs =>
  unc vs fun x61 vs =>
  bndV (kBin .add [x61, (.int .i64 (.ofNat (nat_lit 1)))]) fun x86 =>
  rc [x0, x59, x60, x86] h
noncomputable def f146_4 (rc : List V → HT → Option J) (x0 : V) (x5 : V) (x59 : V) (x60 : V) (x61 : V) (h : HT) : Option J := bndV (kNilc [x0]) fun x67 =>
  bndV (kFa 2 [x67]) fun x68 =>
  bndV (qLd h none [x68]) fun x69 =>
  bndV (qLd h (some 2) [x5]) fun x70 =>
  bndN (kAlloc [(.int .i64 (.ofNat (nat_lit 0))), (.int .i64 (.ofNat (nat_lit 0))), (.int .i64 (.ofNat (nat_lit 0))), (.int .i64 (.ofNat (nat_lit 0))), (.int .i64 (.ofNat (nat_lit 0))), (.int .i64 (.ofNat (nat_lit 0))), (.int .i64 (.ofNat (nat_lit 0))), (.int .i64 (.ofNat (nat_lit 0))), (.str (sb [])), (.str (sb [])), (.str (sb [])), (.str (sb [])), (.int .i64 (.ofNat (nat_lit 0))), (.int .i64 (.ofNat (nat_lit 0))), (.int .i64 (.ofNat (nat_lit 0))), (.int .i64 (.ofNat (nat_lit 0))), (.int .i64 (.ofNat (nat_lit 0))), (.int .i64 (.ofNat (nat_lit 0))), (.int .i64 (.ofNat (nat_lit 0))), (.int .i64 (.ofNat (nat_lit 0))), (.bool false)] []) h fun x6 h =>
  bndC (f200 [x69, x70] h) fun x71 h =>
  bndV (kExt 0 [x71]) fun x72 =>
  bndV (kExt 1 [x71]) fun x73 =>
  bndE (dSt h 21 [x6, x72]) h fun _ h =>
  bndV (kFa 0 [x6]) fun x74 =>
  bndV (qLd h none [x74]) fun x75 =>
  bndV (kBin .neq [x75, (.int .i64 (.ofNat (nat_lit 3)))]) fun x76 =>
  bndC (gsel x76 true (retV (kMov [x0]) h) h) fun x78 h =>
  bndC (gsel x76 true (retV (qLd h (some 2) [x5]) h) h) fun x79 h =>
  (f146_3 rc x0 x5 x59 x60 x61 x76 x78 x79 h)
noncomputable def f146_5 (x0 : V) (x9 : V) (x91 : V) (x92 : V) (x93 : V) (x154 : V) (x156 : V) (x160 : V) (h : HT) : Option J := bndC (gsel x154 true (f223 [x156, x160] h) h) fun x161 h =>
  bndV (kPick [x154, x161, (.bool false)]) fun x162 =>
  bndJ (tstv x162 (bndV (qLd h none [x9]) fun x163 =>
  bndV (kNilc [x163]) fun x164 =>
  bndV (kFa 2 [x164]) fun x165 =>
  bndE (dSt h 1 [x165, (.int .i64 (.ofNat (nat_lit 0)))]) h fun _ h =>
  some ⟨0, [x0, x91, x92, x93], h⟩)
  (some ⟨0, [x0, x91, x92, x93], h⟩))
  fun j vs h => unc vs fun x0 vs =>
  unc vs fun x91 vs =>
  unc vs fun x92 vs =>
  unc vs fun x93 vs =>
  some ⟨0, [x0, x91, x92, x93], h⟩
noncomputable def f146_6 (x0 : V) (x9 : V) (x91 : V) (x92 : V) (x93 : V) (x141 : V) (x144 : V) (h : HT) : Option J := bndV (qLd h none [x144]) fun x145 =>
  bndV (kBin .rem [x141, x145]) fun x146 =>
  bndV (qLd h none [x9]) fun x147 =>
  bndV (kNilc [x147]) fun x148 =>
  bndV (kFa 2 [x148]) fun x149 =>
  bndV (qLd h none [x149]) fun x150 =>
  bndV (kBin .mul [(.int .i64 (.ofNat (nat_lit 6))), x146]) fun x152 =>
  bndV (kBin .add [(.int .i64 (.ofNat (nat_lit 12))), x152]) fun x153 =>
  bndV (kBin .geq [x150, x153]) fun x154 =>
  bndC (gsel x154 true (retV (kMov [x0]) h) h) fun x156 h =>
  bndC (gsel x154 true (retV (qLd h none [x9]) h) h) fun x157 h =>
  bndC (gsel x154 true (retV (kNilc [x157]) h) h) fun x158 h =>
  bndC (gsel x154 true (retV (kFa 0 [x158]) h) h) fun x159 h =>
  bndC (gsel x154 true (retV (qLd h (some 2) [x159]) h) h) fun x160 h =>
  (f146_5 x0 x9 x91 x92 x93 x154 x156 x160 h)
noncomputable def f146_7 (x0 : V) (x9 : V) (x91 : V) (x92 : V) (x93 : V) (x128 : V) (h : HT) : Option J := bndV (kFa 1 [x128]) fun x129 =>
  bndV (qLd h none [x129]) fun x130 =>
  bndV (qLd h none [x9]) fun x131 =>
  bndV (kNilc [x131]) fun x132 =>
  bndV (kFa 0 [x132]) fun x133 =>
  bndV (kFa 0 [x133]) fun x134 =>
  bndV (qLd h none [x134]) fun x135 =>
  bndV (kBin .sub [x130, x135]) fun x136 =>
  bndV (kNilc [x0]) fun x138 =>
  bndV (kFa 0 [x138]) fun x139 =>
  bndV (qLd h none [x139]) fun x140 =>
  bndV (kBin .add [x136, x140]) fun x141 =>
  bndV (kNilc [x0]) fun x143 =>
  bndV (kFa 0 [x143]) fun x144 =>
  (f146_6 x0 x9 x91 x92 x93 x141 x144 h)
noncomputable def f146_8 (x0 : V) (x9 : V) (x91 : V) (x92 : V) (x93 : V) (x116 : V) (h : HT) : Option J := bndV (qLd h (some 2) [x116]) fun x117 =>
  bndC (f207 [x0, x117] h) fun x118 h =>
  bndV (kEqN true [x118, (.ptr none)]) fun x119 =>
  tstv x119 (some ⟨0, [x0, x91, x92, x93], h⟩)
  (bndV (qLd h none [x9]) fun x120 =>
  bndV (kNilc [x120]) fun x121 =>
  bndV (kFa 2 [x121]) fun x122 =>
  bndV (qLd h none [x122]) fun x123 =>
  bndV (kBin .add [x123, (.int .i64 (.ofNat (nat_lit 1)))]) fun x124 =>
  bndV (kNilc [x120]) fun x125 =>
  bndV (kFa 2 [x125]) fun x126 =>
  bndE (dSt h 1 [x126, x124]) h fun _ h =>
  bndV (kNilc [x0]) fun x128 =>
  (f146_7 x0 x9 x91 x92 x93 x128 h))
noncomputable def f146_9 (x0 : V) (x9 : V) (x91 : V) (x92 : V) (x93 : V) (x102 : V) (h : HT) : Option J := bndV (kUn .not [x102]) fun x103 =>
  tstv x103 (bndV (kNilc [x0]) fun x106 =>
  bndV (kFa 5 [x106]) fun x107 =>
  bndV (qLd h none [x107]) fun x108 =>
  bndV (kMkF 222 [x9]) fun x109 =>
  bndC (f221 [x108, x109] h) fun x110 h =>
  bndV (kNilc [x0]) fun x111 =>
  bndV (kFa 5 [x111]) fun x112 =>
  bndE (dSt h 1 [x112, x110]) h fun _ h =>
  some ⟨0, [x0, x91, x92, x93], h⟩)
  (bndV (qLd h none [x9]) fun x114 =>
  bndV (kNilc [x114]) fun x115 =>
  bndV (kFa 0 [x115]) fun x116 =>
  (f146_8 x0 x9 x91 x92 x93 x116 h))
noncomputable def f146_10 (rc : List V → HT → Option J) (x0 : V) (x91 : V) (x92 : V) (x93 : V) (h : HT) : Option J := bndJ (bndV (kIaS 1 [x91, x93]) fun x95 =>
  bndV (qLd h none [x95]) fun x96 =>
  bndN (kAlloc [(.ptr none)] []) h fun x9 h =>
  bndE (dSt h 1 [x9, x96]) h fun _ h =>
  bndV (qLd h none [x9]) fun x98 =>
  bndV (kNilc [x98]) fun x99 =>
  bndV (kFa 0 [x99]) fun x100 =>
  bndV (qLd h (some 2) [x100]) fun x101 =>
  bndC (f220 [x0, x101] h) fun x102 h =>
  (f146_9 x0 x9 x91 x92 x93 x102 h))
  fun j vs h => unc vs fun x0 vs =>
  unc vs fun x91 vs =>
  unc vs fun x92 vs =>
  unc vs fun x93 vs =>
  bndV (kBin .add [x93, (.int .i64 (.ofNat (nat_lit 1)))]) fun x166 =>
  rc [x0, x91, x92, x166] h
noncomputable def f146_11 (x0 : V) (x88 : V) (h : HT) : Option J := bndV (kFa 5 [x88]) fun x89 =>
  bndV (qLd h none [x89]) fun x90 =>
  bndC (f219 [x90] h) fun x91 h =>
  bndV (kLenS [x91]) fun x92 =>
  bndJ (loopF (fun rc vs h => unc vs fun x0 vs =>
  unc vs fun x91 vs =>
  unc vs fun x92 vs =>
  unc vs fun x93 vs =>
  bndV (kBin .lss [x93, x92]) fun x94 =>
  tstv x94 ((f146_10 rc x0 x91 x92 x93 h))
  (some ⟨0, [], h⟩)) 1000000 [x0, x91, x92, (.int .i64 (.ofNat (nat_lit 0)))] h)
  fun j vs h => ret1 (.tuple []) h
noncomputable def f146_12 (x0 : V) (x59 : V) (x60 : V) (h : HT) : Option J := bndJ (loopF (fun rc vs h => unc vs fun x0 vs =>
  unc vs fun x59 vs =>
  unc vs fun x60 vs =>
  unc vs fun x61 vs =>
  bndV (kBin .lss [x61, x60]) fun x62 =>
  tstv x62 (bndV (kIaS 2 [x59, x61]) fun x63 =>
  bndV (qLd h (some 2) [x63]) fun x64 =>
  bndN (kAlloc [(.int .i64 (.ofNat (nat_lit 0))), (.int .i64 (.ofNat (nat_lit 0)))] []) h fun x5 h =>
  bndE (dSt h 2 [x5, x64]) h fun _ h =>
  (f146_4 rc x0 x5 x59 x60 x61 h))
  (some ⟨0, [x0], h⟩)) 1000000 [x0, x59, x60, (.int .i64 (.ofNat (nat_lit 0)))] h)
  fun j vs h => unc vs fun x0 vs =>
  bndV (kNilc [x0]) fun x88 =>
  (f146_11 x0 x88 h)
noncomputable def f146_13 (x0 : V) (x15 : V) (x16 : V) (h : HT) : Option J := bndJ (loopF (fun rc vs h => unc vs fun x0 vs =>
  unc vs fun x15 vs =>
  unc vs fun x16 vs =>
  unc vs fun x17 vs =>
  bndV (kBin .lss [x17, x16]) fun x18 =>
  (f146_2 rc x0 x15 x16 x17 x18 h)) 1000000 [x0, x15, x16, (.int .i64 (.ofNat (nat_lit 0)))] h)
  fun j vs h => unc vs fun x0 vs =>
  bndV (kNilc [x0]) fun x56 =>
  bndV (kFa 2 [x56]) fun x57 =>
  bndV (qLd h none [x57]) fun x58 =>
  bndC (f199 [x58] h) fun x59 h =>
  bndV (kLenS [x59]) fun x60 =>
  (f146_12 x0 x59 x60 h)
noncomputable def f146 (vs : List V) (h : HT) : Option J := unc vs fun x0 vs =>
  bndV (kNilc [x0]) fun x12 =>
  bndV (kFa 4 [x12]) fun x13 =>
  bndV (qLd h none [x13]) fun x14 =>
  bndC (f218 [x14] h) fun x15 h =>
  bndV (kLenS [x15]) fun x16 =>
  (f146_13 x0 x15 x16 h)
def a146 : List Ann := [.no, .loop [0, 15, 16, 17] [((.exit 0), [0])], .no, .join [(.normal, [0, 15, 16, 17])], .no, .no, .loop [0, 59, 60, 61] [((.exit 2), [0])], .no, .no, .join [(.normal, [0, 59, 60, 61])], .no, .loop [0, 91, 92, 93] [((.exit 4), [])], .no, .join [(.normal, [0, 91, 92, 93])], .no, .no, .join [(.normal, [0, 91, 92, 93])]]
theorem e146 : f146 = evFun Tryz.prog 146 1 a146 t146 := by kernel_rfl
theorem o146 : FnOk Tryz.prog 146 f146 := .of hmO (show enters Tryz.prog 146 = true by kernel_rfl) e146 (.cons o199 (.cons o200 (.cons o205 (.cons o207 (.cons o218 (.cons o219 (.cons o220 (.cons o221 (.cons o223 (.nil))))))))))

/- (*concord/node.Node).Tick -/
noncomputable def l59 : List (Nat × (List V → HT → Option J)) := [(39, f39), (146, f146)]
noncomputable def t59 : Fns := tab l59
noncomputable def f59_0 (x0 : V) (x2 : V) (x45 : V) (x49 : V) (x53 : V) (h : HT) : Option J := bndV (qLd h (some 7) [x53]) fun x54 =>
  bndV (kBld [(.int .i64 (.ofNat (nat_lit 0))), (.int .i64 (.ofNat (nat_lit 0))), (.int .i64 (.ofNat (nat_lit 0))), (.int .i64 (.ofNat (nat_lit 0))), (.int .i64 (.ofNat (nat_lit 0))), (.int .i64 (.ofNat (nat_lit 0))), (.int .i64 (.ofNat (nat_lit 0))), (.int .i64 (.ofNat (nat_lit 0))), (.int .i64 (.ofNat (nat_lit 0))), (.int .i64 (.ofNat (nat_lit 0))), (.str (sb [])), (.str (sb [])), (.str (sb [])), (.str (sb [])), (.int .i64 (.ofNat (nat_lit 0))), (.int .i64 (.ofNat (nat_lit 0))), (.int .i64 (.ofNat (nat_lit 0))), (.int .i64 (.ofNat (nat_lit 0))), (.int .i64 (.ofNat (nat_lit 0))), (.int .i64 (.ofNat (nat_lit 0))), (.int .i64 (.ofNat (nat_lit 0))), (.int .i64 (.ofNat (nat_lit 0))), (.int .i64 (.ofNat (nat_lit 0))), (.int .i64 (.ofNat (nat_lit 0))), (.int .i64 (.ofNat (nat_lit 0))), (.int .i64 (.ofNat (nat_lit 0))), (.int .i64 (.ofNat (nat_lit 0))), (.int .i64 (.ofNat (nat_lit 0))), (.int .i64 (.ofNat (nat_lit 0))), (.int .i64 (.ofNat (nat_lit 0))), (.str (sb [])), (.str (sb [])), (.str (sb [])), (.str (sb [])), (.int .i64 (.ofNat (nat_lit 0))), (.int .i64 (.ofNat (nat_lit 0))), (.int .i64 (.ofNat (nat_lit 0))), (.int .i64 (.ofNat (nat_lit 0))), (.int .i64 (.ofNat (nat_lit 0))), (.int .i64 (.ofNat (nat_lit 0))), (.int .i64 (.ofNat (nat_lit 0))), (.int .i64 (.ofNat (nat_lit 0))), (.bool false), (.int .i64 (.ofNat (nat_lit 0))), (.int .i64 (.ofNat (nat_lit 0))), (.int .i64 (.ofNat (nat_lit 0))), (.int .i64 (.ofNat (nat_lit 0))), (.int .i64 (.ofNat (nat_lit 0))), (.int .i64 (.ofNat (nat_lit 0))), (.int .i64 (.ofNat (nat_lit 0))), (.str (sb []))] [(0, 1), (1, 1), (2, 1), (43, 7)] [(.int .i64 (.ofNat (nat_lit 9))), x49, x2, x54]) fun x55 =>
  bndV (kNilc [x0]) fun x57 =>
  bndV (kFa 1 [x57]) fun x58 =>
  bndV (qLd h none [x58]) fun x59 =>
  bndV (kNilc [x0]) fun x62 =>
  bndV (kFa 55 [x62]) fun x63 =>
  bndV (qLd h (some 7) [x63]) fun x64 =>
  bndV (kBld [(.int .i64 (.ofNat (nat_lit 0))), (.int .i64 (.ofNat (nat_lit 0))), (.int .i64 (.ofNat (nat_lit 0))), (.int .i64 (.ofNat (nat_lit 0))), (.int .i64 (.ofNat (nat_lit 0))), (.int .i64 (.ofNat (nat_lit 0))), (.int .i64 (.ofNat (nat_lit 0))), (.int .i64 (.ofNat (nat_lit 0))), (.int .i64 (.ofNat (nat_lit 0))), (.int .i64 (.ofNat (nat_lit 0))), (.str (sb [])), (.str (sb [])), (.str (sb [])), (.str (sb [])), (.int .i64 (.ofNat (nat_lit 0))), (.int .i64 (.ofNat (nat_lit 0))), (.int .i64 (.ofNat (nat_lit 0))), (.int .i64 (.ofNat (nat_lit 0))), (.int .i64 (.ofNat (nat_lit 0))), (.int .i64 (.ofNat (nat_lit 0))), (.int .i64 (.ofNat (nat_lit 0))), (.int .i64 (.ofNat (nat_lit 0))), (.int .i64 (.ofNat (nat_lit 0))), (.int .i64 (.ofNat (nat_lit 0))), (.int .i64 (.ofNat (nat_lit 0))), (.int .i64 (.ofNat (nat_lit 0))), (.int .i64 (.ofNat (nat_lit 0))), (.int .i64 (.ofNat (nat_lit 0))), (.int .i64 (.ofNat (nat_lit 0))), (.int .i64 (.ofNat (nat_lit 0))), (.str (sb [])), (.str (sb [])), (.str (sb [])), (.str (sb [])), (.int .i64 (.ofNat (nat_lit 0))), (.int .i64 (.ofNat (nat_lit 0))), (.int .i64 (.ofNat (nat_lit 0))), (.int .i64 (.ofNat (nat_lit 0))), (.int .i64 (.ofNat (nat_lit 0))), (.int .i64 (.ofNat (nat_lit 0))), (.int .i64 (.ofNat (nat_lit 0))), (.int .i64 (.ofNat (nat_lit 0))), (.bool false), (.int .i64 (.ofNat (nat_lit 0))), (.int .i64 (.ofNat (nat_lit 0))), (.int .i64 (.ofNat (nat_lit 0))), (.int .i64 (.ofNat (nat_lit 0))), (.int .i64 (.ofNat (nat_lit 0))), (.int .i64 (.ofNat (nat_lit 0))), (.int .i64 (.ofNat (nat_lit 0))), (.str (sb []))] [(0, 1), (1, 1), (2, 1), (43, 7)] [(.int .i64 (.ofNat (nat_lit 11))), x59, x2, x64]) fun x65 =>
  bndN (kBsl 51 2 [(.int .i64 (.ofNat (nat_lit 0))), (.int .i64 (.ofNat (nat_lit 0))), (.int .i64 (.ofNat (nat_lit 0))), (.int .i64 (.ofNat (nat_lit 0))), (.int .i64 (.ofNat (nat_lit 0))), (.int .i64 (.ofNat (nat_lit 0))), (.int .i64 (.ofNat (nat_lit 0))), (.int .i64 (.ofNat (nat_lit 0))), (.int .i64 (.ofNat (nat_lit 0))), (.int .i64 (.ofNat (nat_lit 0))), (.str (sb [])), (.str (sb [])), (.str (sb [])), (.str (sb [])), (.int .i64 (.ofNat (nat_lit 0))), (.int .i64 (.ofNat (nat_lit 0))), (.int .i64 (.ofNat (nat_lit 0))), (.int .i64 (.ofNat (nat_lit 0))), (.int .i64 (.ofNat (nat_lit 0))), (.int .i64 (.ofNat (nat_lit 0))), (.int .i64 (.ofNat (nat_lit 0))), (.int .i64 (.ofNat (nat_lit 0))), (.int .i64 (.ofNat (nat_lit 0))), (.int .i64 (.ofNat (nat_lit 0))), (.int .i64 (.ofNat (nat_lit 0))), (.int .i64 (.ofNat (nat_lit 0))), (.int .i64 (.ofNat (nat_lit 0))), (.int .i64 (.ofNat (nat_lit 0))), (.int .i64 (.ofNat (nat_lit 0))), (.int .i64 (.ofNat (nat_lit 0))), (.str (sb [])), (.str (sb [])), (.str (sb [])), (.str (sb [])), (.int .i64 (.ofNat (nat_lit 0))), (.int .i64 (.ofNat (nat_lit 0))), (.int .i64 (.ofNat (nat_lit 0))), (.int .i64 (.ofNat (nat_lit 0))), (.int .i64 (.ofNat (nat_lit 0))), (.int .i64 (.ofNat (nat_lit 0))), (.int .i64 (.ofNat (nat_lit 0))), (.int .i64 (.ofNat (nat_lit 0))), (.bool false), (.int .i64 (.ofNat (nat_lit 0))), (.int .i64 (.ofNat (nat_lit 0))), (.int .i64 (.ofNat (nat_lit 0))), (.int .i64 (.ofNat (nat_lit 0))), (.int .i64 (.ofNat (nat_lit 0))), (.int .i64 (.ofNat (nat_lit 0))), (.int .i64 (.ofNat (nat_lit 0))), (.str (sb [])), (.int .i64 (.ofNat (nat_lit 0))), (.int .i64 (.ofNat (nat_lit 0))), (.int .i64 (.ofNat (nat_lit 0))), (.int .i64 (.ofNat (nat_lit 0))), (.int .i64 (.ofNat (nat_lit 0))), (.int .i64 (.ofNat (nat_lit 0))), (.int .i64 (.ofNat (nat_lit 0))), (.int .i64 (.ofNat (nat_lit 0))), (.int .i64 (.ofNat (nat_lit 0))), (.int .i64 (.ofNat (nat_lit 0))), (.str (sb [])), (.str (sb [])), (.str (sb [])), (.str (sb [])), (.int .i64 (.ofNat (nat_lit 0))), (.int .i64 (.ofNat (nat_lit 0))), (.int .i64 (.ofNat (nat_lit 0))), (.int .i64 (.ofNat (nat_lit 0))), (.int .i64 (.ofNat (nat_lit 0))), (.int .i64 (.ofNat (nat_lit 0))), (.int .i64 (.ofNat (nat_lit 0))), (.int .i64 (.ofNat (nat_lit 0))), (.int .i64 (.ofNat (nat_lit 0))), (.int .i64 (.ofNat (nat_lit 0))), (.int .i64 (.ofNat (nat_lit 0))), (.int .i64 (.ofNat (nat_lit 0))), (.int .i64 (.ofNat (nat_lit 0))), (.int .i64 (.ofNat (nat_lit 0))), (.int .i64 (.ofNat (nat_lit 0))), (.int .i64 (.ofNat (nat_lit 0))), (.str (sb [])), (.str (sb [])), (.str (sb [])), (.str (sb [])), (.int .i64 (.ofNat (nat_lit 0))), (.int .i64 (.ofNat (nat_lit 0))), (.int .i64 (.ofNat (nat_lit 0))), (.int .i64 (.ofNat (nat_lit 0))), (.int .i64 (.ofNat (nat_lit 0))), (.int .i64 (.ofNat (nat_lit 0))), (.int .i64 (.ofNat (nat_lit 0))), (.int .i64 (.ofNat (nat_lit 0))), (.bool false), (.int .i64 (.ofNat (nat_lit 0))), (.int .i64 (.ofNat (nat_lit 0))), (.int .i64 (.ofNat (nat_lit 0))), (.int .i64 (.ofNat (nat_lit 0))), (.int .i64 (.ofNat (nat_lit 0))), (.int .i64 (.ofNat (nat_lit 0))), (.int .i64 (.ofNat (nat_lit 0))), (.str (sb []))] [(0, 51), (51, 51)] [x55, x65]) h fun x66 h =>
  bndE (dApp h 51 480 [x45, x66]) h fun x67 h =>
  bndV (kNilc [x0]) fun x68 =>
  bndV (kFa 72 [x68]) fun x69 =>
  bndE (dSt h 1 [x69, x67]) h fun _ h =>
  some ⟨0, [x0, x2], h⟩
noncomputable def f59_1 (rc : List V → HT → Option J) (x0 : V) (x2 : V) (x40 : V) (h : HT) : Option J := bndJ (tstv x40 (bndV (kNilc [x0]) fun x43 =>
  bndV (kFa 72 [x43]) fun x44 =>
  bndV (qLd h none [x44]) fun x45 =>
  bndV (kNilc [x0]) fun x47 =>
  bndV (kFa 1 [x47]) fun x48 =>
  bndV (qLd h none [x48]) fun x49 =>
  bndV (kNilc [x0]) fun x52 =>
  bndV (kFa 62 [x52]) fun x53 =>
  (f59_0 x0 x2 x45 x49 x53 h))
  (some ⟨0, [x0, x2], h⟩))
  fun j vs h => unc vs fun x0 vs =>
  unc vs fun x2 vs =>
  bndV (kBin .add [x2, (.int .i64 (.ofNat (nat_lit 1)))]) fun x34 =>
  rc [x0, x34] h
noncomputable def f59_2 (rc : List V → HT → Option J) (x0 : V) (x2 : V) (x23 : V) (h : HT) : Option J := bndV (kBin .lss [x2, x23]) fun x24 =>
  bndC (gsel x24 true (retV (kMov [x0]) h) h) fun x26 h =>
  bndC (gsel x24 true (retV (kNilc [x26]) h) h) fun x27 h =>
  bndC (gsel x24 true (retV (kFa 70 [x27]) h) h) fun x28 h =>
  bndC (gsel x24 true (retV (qLd h none [x28]) h) h) fun x29 h =>
  bndC (gsel x24 true (retV (kBin .rem [x29, (.int .i64 (.ofNat (nat_lit 8)))]) h) h) fun x30 h =>
  bndC (gsel x24 true (retV (kBin .eql [x30, (.int .i64 (.ofNat (nat_lit 0)))]) h) h) fun x31 h =>
  bndV (kPick [x24, x31, (.bool false)]) fun x32 =>
  tstv x32 (bndV (kNilc [x0]) fun x37 =>
  bndV (kFa 1 [x37]) fun x38 =>
  bndV (qLd h none [x38]) fun x39 =>
  bndV (kBin .neq [x2, x39]) fun x40 =>
  (f59_1 rc x0 x2 x40 h))
  (some ⟨0, [x0], h⟩)
noncomputable def f59_3 (x0 : V) (x15 : V) (h : HT) : Option J := bndV (kBin .add [x15, (.int .i64 (.ofNat (nat_lit 1)))]) fun x16 =>
  bndV (kNilc [x0]) fun x17 =>
  bndV (kFa 70 [x17]) fun x18 =>
  bndE (dSt h 1 [x18, x16]) h fun _ h =>
  bndJ (loopF (fun rc vs h => unc vs fun x0 vs =>
  unc vs fun x2 vs =>
  bndV (kNilc [x0]) fun x21 =>
  bndV (kFa 0 [x21]) fun x22 =>
  bndV (qLd h none [x22]) fun x23 =>
  (f59_2 rc x0 x2 x23 h)) 1000000 [x0, (.int .i64 (.ofNat (nat_lit 0)))] h)
  fun j vs h => unc vs fun x0 vs =>
  bndC (f39 [x0] h) fun x71 h =>
  ret1 (.tuple []) h
noncomputable def f59 (vs : List V) (h : HT) : Option J := unc vs fun x0 vs =>
  bndV (kNilc [x0]) fun x4 =>
  bndV (kFa 74 [x4]) fun x5 =>
  bndV (qLd h none [x5]) fun x6 =>
  tstv x6 (ret1 (.tuple []) h)
  (bndV (kNilc [x0]) fun x8 =>
  bndV (kFa 4 [x8]) fun x9 =>
  bndV (qLd h none [x9]) fun x10 =>
  bndC (f146 [x10] h) fun x11 h =>
  bndV (kNilc [x0]) fun x13 =>
  bndV (kFa 70 [x13]) fun x14 =>
  bndV (qLd h none [x14]) fun x15 =>
  (f59_3 x0 x15 h))
def a59 : List Ann := [.no, .no, .loop [0, 2] [((.exit 0), [0])], .no, .no, .join [(.normal, [0, 2])]]
theorem e59 : f59 = evFun Tryz.prog 59 1 a59 t59 := by kernel_rfl
theorem o59 : FnOk Tryz.prog 59 f59 := .of hmO (show enters Tryz.prog 59 = true by kernel_rfl) e59 (.cons o39 (.cons o146 (.nil)))

/- (*concord/disk.Disk).Arm -/
noncomputable def l60 : List (Nat × (List V → HT → Option J)) := []
noncomputable def t60 : Fns := tab l60

noncomputable def f60 (vs : List V) (h : HT) : Option J := unc vs fun x0 vs =>
  unc vs fun x1 vs =>
  bndV (kBin .geq [x1, (.int .i64 (.ofNat (nat_lit 0)))]) fun x7 =>
  bndV (kMaxI [x1, (.int .i64 (.ofNat (nat_lit 0)))]) fun x9 =>
  bndV (kNilc [x0]) fun x10 =>
  bndV (kFa 3 [x10]) fun x11 =>
  bndE (dSt h 1 [x11, x7]) h fun _ h =>
  bndV (kNilc [x0]) fun x12 =>
  bndV (kFa 4 [x12]) fun x13 =>
  bndE (dSt h 1 [x13, x9]) h fun _ h =>
  ret1 (.tuple []) h
def a60 : List Ann := []
theorem e60 : f60 = evFun Tryz.prog 60 2 a60 t60 := by kernel_rfl
theorem o60 : FnOk Tryz.prog 60 f60 := .of hmO (show enters Tryz.prog 60 = true by kernel_rfl) e60 (.nil)

/- (*concord/disk.Disk).Crash -/
noncomputable def l61 : List (Nat × (List V → HT → Option J)) := [(147, f147)]
noncomputable def t61 : Fns := tab l61
noncomputable def f61_0 (rc : List V → HT → Option J) (x0 : V) (x1 : V) (x5 : V) (x20 : V) (x21 : V) (x43 : V) (x47 : V) (x60 : V) (h : HT) : Option J := bndV (kBin .add [x47, x60]) fun x61 =>
  bndV (kSlS 1 false true [x43, x61]) fun x62 =>
  bndC (f147 [x62] h) fun x63 h =>
  bndV (kNilc [x5]) fun x64 =>
  bndV (kFa 1 [x64]) fun x65 =>
  bndE (dSt h 1 [x65, x63]) h fun _ h =>
  bndV (kNilc [x5]) fun x68 =>
  bndV (kFa 1 [x68]) fun x69 =>
  bndV (qLd h none [x69]) fun x70 =>
  bndV (kLenS [x70]) fun x71 =>
  bndV (kNilc [x5]) fun x72 =>
  bndV (kFa 2 [x72]) fun x73 =>
  bndE (dSt h 1 [x73, x71]) h fun _ h =>
  bndV (kBin .add [x21, (.int .i64 (.ofNat (nat_lit 1)))]) fun x74 =>
  rc [x0, x1, x20, x74] h
noncomputable def f61_1 (rc : List V → HT → Option J) (x0 : V) (x1 : V) (x5 : V) (x6 : V) (x20 : V) (x21 : V) (x42 : V) (h : HT) : Option J := bndV (qLd h none [x42]) fun x43 =>
  bndV (kNilc [x5]) fun x45 =>
  bndV (kFa 2 [x45]) fun x46 =>
  bndV (qLd h none [x46]) fun x47 =>
  bndV (kNilc [x5]) fun x50 =>
  bndV (kFa 1 [x50]) fun x51 =>
  bndV (qLd h none [x51]) fun x52 =>
  bndV (kLenS [x52]) fun x53 =>
  bndV (kNilc [x5]) fun x55 =>
  bndV (kFa 2 [x55]) fun x56 =>
  bndV (qLd h none [x56]) fun x57 =>
  bndV (kBin .sub [x53, x57]) fun x58 =>
  bndV (kBin .add [x58, (.int .i64 (.ofNat (nat_lit 1)))]) fun x59 =>
  bndV (kBin .rem [x6, x59]) fun x60 =>
  (f61_0 rc x0 x1 x5 x20 x21 x43 x47 x60 h)
noncomputable def f61_2 (rc : List V → HT → Option J) (x0 : V) (x1 : V) (x20 : V) (x21 : V) (x29 : V) (x33 : V) (h : HT) : Option J := bndJ (tstv x33 (bndV (kIaS 1 [x1, x21]) fun x36 =>
  bndV (qLd h none [x36]) fun x37 =>
  bndV (kMaxI [x37, (.int .i64 (.ofNat (nat_lit 0)))]) fun x38 =>
  some ⟨0, [x0, x1, x29, x38, x20, x21], h⟩)
  (some ⟨0, [x0, x1, x29, (.int .i64 (.ofNat (nat_lit 0))), x20, x21], h⟩))
  fun j vs h => unc vs fun x0 vs =>
  unc vs fun x1 vs =>
  unc vs fun x5 vs =>
  unc vs fun x6 vs =>
  unc vs fun x20 vs =>
  unc vs fun x21 vs =>
  bndV (kNilc [x5]) fun x41 =>
  bndV (kFa 1 [x41]) fun x42 =>
  (f61_1 rc x0 x1 x5 x6 x20 x21 x42 h)
noncomputable def f61_3 (x0 : V) (x1 : V) (x20 : V) (h : HT) : Option J := loopF (fun rc vs h => unc vs fun x0 vs =>
  unc vs fun x1 vs =>
  unc vs fun x20 vs =>
  unc vs fun x21 vs =>
  bndV (kBin .lss [x21, x20]) fun x22 =>
  tstv x22 (bndV (kNilc [x0]) fun x25 =>
  bndV (kFa 1 [x25]) fun x26 =>
  bndV (qLd h none [x26]) fun x27 =>
  bndV (kIaS 3 [x27, x21]) fun x29 =>
  bndV (kLenS [x1]) fun x32 =>
  bndV (kBin .lss [x21, x32]) fun x33 =>
  (f61_2 rc x0 x1 x20 x21 x29 x33 h))
  (some ⟨0, [], h⟩)) 1000000 [x0, x1, x20, (.int .i64 (.ofNat (nat_lit 0)))] h
noncomputable def f61_4 (x0 : V) (x1 : V) (x10 : V) (h : HT) : Option J := bndV (kFa 2 [x10]) fun x11 =>
  bndE (dSt h 1 [x11, (.bool false)]) h fun _ h =>
  bndV (kNilc [x0]) fun x12 =>
  bndV (kFa 3 [x12]) fun x13 =>
  bndE (dSt h 1 [x13, (.bool false)]) h fun _ h =>
  bndV (kNilc [x0]) fun x14 =>
  bndV (kFa 4 [x14]) fun x15 =>
  bndE (dSt h 1 [x15, (.int .i64 (.ofNat (nat_lit 0)))]) h fun _ h =>
  bndV (kNilc [x0]) fun x17 =>
  bndV (kFa 1 [x17]) fun x18 =>
  bndV (qLd h none [x18]) fun x19 =>
  bndV (kLenS [x19]) fun x20 =>
  bndJ ((f61_3 x0 x1 x20 h))
  fun j vs h => ret1 (.tuple []) h
noncomputable def f61 (vs : List V) (h : HT) : Option J := unc vs fun x0 vs =>
  unc vs fun x1 vs =>
  bndV (kNilc [x0]) fun x10 =>
  (f61_4 x0 x1 x10 h)
def a61 : List Ann := [.no, .loop [0, 1, 20, 21] [((.exit 0), [])], .no, .no, .join [(.normal, [0, 1, 5, 6, 20, 21])]]
theorem e61 : f61 = evFun Tryz.prog 61 2 a61 t61 := by kernel_rfl
theorem o61 : FnOk Tryz.prog 61 f61 := .of hmO (show enters Tryz.prog 61 = true by kernel_rfl) e61 (.cons o147 (.nil))

/- (*concord/cluster.Cluster).Do -/
noncomputable def l18 : List (Nat × (List V → HT → Option J)) := [(53, f53), (54, f54), (55, f55), (56, f56), (57, f57), (58, f58), (59, f59), (60, f60), (61, f61)]
noncomputable def t18 : Fns := tab l18
noncomputable def f18_0 (x0 : V) (x3 : V) (x66 : V) (h : HT) : Option J := bndV (kFa 1 [x3]) fun x67 =>
  bndV (qLd h none [x67]) fun x68 =>
  bndV (kIaS 1 [x66, x68]) fun x69 =>
  bndE (dSt h 1 [x69, (.ptr none)]) h fun _ h =>
  bndV (kNilc [x0]) fun x71 =>
  bndV (kFa 1 [x71]) fun x72 =>
  bndV (qLd h none [x72]) fun x73 =>
  bndV (kFa 1 [x3]) fun x74 =>
  bndV (qLd h none [x74]) fun x75 =>
  bndV (kIaS 1 [x73, x75]) fun x76 =>
  bndV (qLd h none [x76]) fun x77 =>
  bndV (kFa 11 [x3]) fun x78 =>
  bndV (qLd h none [x78]) fun x79 =>
  bndC (f61 [x77, x79] h) fun x80 h =>
  ret1 (.bool true) h
noncomputable def f18_1 (x0 : V) (x3 : V) (x39 : V) (x49 : V) (h : HT) : Option J := tstv x49 (bndV (kNilc [x0]) fun x51 =>
  bndV (kFa 1 [x51]) fun x52 =>
  bndV (qLd h none [x52]) fun x53 =>
  bndV (kFa 1 [x3]) fun x54 =>
  bndV (qLd h none [x54]) fun x55 =>
  bndV (kIaS 1 [x53, x55]) fun x56 =>
  bndV (qLd h none [x56]) fun x57 =>
  bndV (kFa 2 [x3]) fun x58 =>
  bndV (qLd h none [x58]) fun x59 =>
  bndC (f60 [x57, x59] h) fun x60 h =>
  ret1 (.bool true) h)
  (bndV (kBin .eql [x39, (.int .i64 (.ofNat (nat_lit 8)))]) fun x62 =>
  tstv x62 (bndV (kNilc [x0]) fun x64 =>
  bndV (kFa 2 [x64]) fun x65 =>
  bndV (qLd h none [x65]) fun x66 =>
  (f18_0 x0 x3 x66 h))
  (ret1 (.bool false) h))
noncomputable def f18_2 (x0 : V) (x3 : V) (x34 : V) (h : HT) : Option J := bndC (f58 [x0, x34] h) fun x35 h =>
  bndV (kEqN false [x35, (.ptr none)]) fun x37 =>
  tstv x37 (ret1 (.bool false) h)
  (bndV (kFa 0 [x3]) fun x38 =>
  bndV (qLd h none [x38]) fun x39 =>
  bndV (kBin .eql [x39, (.int .i64 (.ofNat (nat_lit 5)))]) fun x41 =>
  tstv x41 (bndC (f59 [x35] h) fun x43 h =>
  bndV (kFa 1 [x3]) fun x45 =>
  bndV (qLd h none [x45]) fun x46 =>
  bndC (f53 [x0, x46] h) fun x47 h =>
  ret1 (.bool true) h)
  (bndV (kBin .eql [x39, (.int .i64 (.ofNat (nat_lit 7)))]) fun x49 =>
  (f18_1 x0 x3 x39 x49 h)))
noncomputable def f18_3 (x0 : V) (x3 : V) (x7 : V) (h : HT) : Option J := bndV (kBin .eql [x7, (.int .i64 (.ofNat (nat_lit 6)))]) fun x21 =>
  tstv x21 (bndV (kFa 1 [x3]) fun x23 =>
  bndV (qLd h none [x23]) fun x24 =>
  bndC (f56 [x0, x24] h) fun x25 h =>
  ret1 x25 h)
  (bndV (kBin .eql [x7, (.int .i64 (.ofNat (nat_lit 9)))]) fun x27 =>
  tstv x27 (bndV (kFa 1 [x3]) fun x29 =>
  bndV (qLd h none [x29]) fun x30 =>
  bndC (f57 [x0, x30] h) fun x31 h =>
  ret1 x31 h)
  (bndV (kFa 1 [x3]) fun x33 =>
  bndV (qLd h none [x33]) fun x34 =>
  (f18_2 x0 x3 x34 h)))
noncomputable def f18_4 (x0 : V) (x3 : V) (x7 : V) (x14 : V) (h : HT) : Option J := bndJ (tstv x14 (some ⟨0, [x0, x3, x7, x14], h⟩)
  (bndV (kBin .eql [x7, (.int .i64 (.ofNat (nat_lit 3)))]) fun x15 =>
  bndJ (tstv x15 (some ⟨0, [x0, x3, x7, x15], h⟩)
  (bndV (kBin .eql [x7, (.int .i64 (.ofNat (nat_lit 4)))]) fun x16 =>
  some ⟨0, [x0, x3, x7, x16], h⟩))
  fun j vs h => unc vs fun x0 vs =>
  unc vs fun x3 vs =>
  unc vs fun x7 vs =>
  unc vs fun x13 vs =>
  some ⟨0, [x0, x3, x7, x13], h⟩))
  fun j vs h => unc vs fun x0 vs =>
  unc vs fun x3 vs =>
  unc vs fun x7 vs =>
  unc vs fun x13 vs =>
  tstv x13 (bndV (qLd h (some 12) [x3]) fun x18 =>
  bndC (f55 [x0, x18] h) fun x19 h =>
  ret1 x19 h)
  ((f18_3 x0 x3 x7 h))
noncomputable def f18 (vs : List V) (h : HT) : Option J := unc vs fun x0 vs =>
  unc vs fun x1 vs =>
  bndN (kBox [x1]) h fun x3 h =>
  bndV (kFa 0 [x3]) fun x6 =>
  bndV (qLd h none [x6]) fun x7 =>
  bndV (kBin .eql [x7, (.int .i64 (.ofNat (nat_lit 1)))]) fun x9 =>
  tstv x9 (bndV (qLd h (some 12) [x3]) fun x11 =>
  bndC (f54 [x0, x11] h) fun x12 h =>
  ret1 x12 h)
  (bndV (kBin .eql [x7, (.int .i64 (.ofNat (nat_lit 2)))]) fun x14 =>
  (f18_4 x0 x3 x7 x14 h))
def a18 : List Ann := [.no, .no, .join [(.normal, [0, 3, 7, 13])], .join [(.normal, [0, 3, 7, 13])], .no, .no, .no, .no, .no, .no, .no, .no]
theorem e18 : f18 = evFun Tryz.prog 18 2 a18 t18 := by kernel_rfl
theorem o18 : FnOk Tryz.prog 18 f18 := .of hmO (show enters Tryz.prog 18 = true by kernel_rfl) e18 (.cons o53 (.cons o54 (.cons o55 (.cons o56 (.cons o57 (.cons o58 (.cons o59 (.cons o60 (.cons o61 (.nil))))))))))

/- slices.Clone[[]concord/api.Event,concord/api.Event] -/
noncomputable def l62 : List (Nat × (List V → HT → Option J)) := []
noncomputable def t62 : Fns := tab l62

noncomputable def f62 (vs : List V) (h : HT) : Option J := unc vs fun x0 vs =>
  bndV (kEqN false [x0, (.slice none 0 true 0)]) fun x4 =>
  tstv x4 (ret1 (.slice none 0 true 0) h)
  (bndN (kBsl 14 0 [] [] []) h fun x5 h =>
  bndE (dApp h 14 168 [x5, x0]) h fun x7 h =>
  ret1 x7 h)
def a62 : List Ann := [.no]
theorem e62 : f62 = evFun Tryz.prog 62 1 a62 t62 := by kernel_rfl
theorem o62 : FnOk Tryz.prog 62 f62 := .of hmO (show enters Tryz.prog 62 = true by kernel_rfl) e62 (.nil)

/- (*concord/cluster.Cluster).History -/
noncomputable def l19 : List (Nat × (List V → HT → Option J)) := [(62, f62), (63, f63)]
noncomputable def t19 : Fns := tab l19
noncomputable def f19_0 (rc : List V → HT → Option J) (x3 : V) (x11 : V) (vs : List V) (h : HT) : Option J := unc vs fun x12 vs =>
  bndV (kBin .lss [x12, x11]) fun x13 =>
  tstv x13 (bndV (kIaS 14 [x3, x12]) fun x19 =>
  bndV (kFa 9 [x19]) fun x20 =>
  bndV (kFa 4 [x20]) fun x21 =>
  bndV (qLd h none [x21]) fun x22 =>
  bndC (f63 [x22] h) fun x23 h =>
  bndV (kIaS 14 [x3, x12]) fun x24 =>
  bndV (kFa 9 [x24]) fun x25 =>
  bndV (kFa 4 [x25]) fun x26 =>
  bndE (dSt h 1 [x26, x23]) h fun _ h =>
  bndV (kBin .add [x12, (.int .i64 (.ofNat (nat_lit 1)))]) fun x27 =>
  rc [x3, x11, x27] h)
  (some ⟨0, [x3], h⟩)
noncomputable def f19 (vs : List V) (h : HT) : Option J := unc vs fun x0 vs =>
  bndV (kNilc [x0]) fun x6 =>
  bndV (kFa 6 [x6]) fun x7 =>
  bndV (qLd h none [x7]) fun x8 =>
  bndC (f62 [x8] h) fun x9 h =>
  bndV (kLenS [x9]) fun x11 =>
  bndJ (loopF (fun rc vs h => unc vs fun x3 vs =>
  unc vs fun x11 vs =>
  (f19_0 rc x3 x11 vs h)) 1000000 [x9, x11, (.int .i64 (.ofNat (nat_lit 0)))] h)
  fun j vs h => unc vs fun x3 vs =>
  ret1 x3 h
def a19 : List Ann := [.no, .loop [3, 11, 12] [((.exit 0), [3])], .no, .no]
theorem e19 : f19 = evFun Tryz.prog 19 1 a19 t19 := by kernel_rfl
theorem o19 : FnOk Tryz.prog 19 f19 := .of hmO (show enters Tryz.prog 19 = true by kernel_rfl) e19 (.cons o62 (.cons o63 (.nil)))

/- (*concord/client.Client).Waits -/
noncomputable def l65 : List (Nat × (List V → HT → Option J)) := []
noncomputable def t65 : Fns := tab l65

noncomputable def f65 (vs : List V) (h : HT) : Option J := unc vs fun x0 vs =>
  bndV (kNilc [x0]) fun x4 =>
  bndV (kFa 9 [x4]) fun x5 =>
  bndV (qLd h none [x5]) fun x6 =>
  ret1 x6 h
def a65 : List Ann := []
theorem e65 : f65 = evFun Tryz.prog 65 1 a65 t65 := by kernel_rfl
theorem o65 : FnOk Tryz.prog 65 f65 := .of hmO (show enters Tryz.prog 65 = true by kernel_rfl) e65 (.nil)

/- (*concord/cluster.Cluster).Waits -/
noncomputable def l20 : List (Nat × (List V → HT → Option J)) := [(64, f64), (65, f65)]
noncomputable def t20 : Fns := tab l20

noncomputable def f20 (vs : List V) (h : HT) : Option J := unc vs fun x0 vs =>
  unc vs fun x1 vs =>
  bndC (f64 [x1] h) fun x6 h =>
  bndC (gsel x6 true (retV (kMov [x0]) h) h) fun x8 h =>
  bndC (gsel x6 true (retV (kNilc [x8]) h) h) fun x9 h =>
  bndC (gsel x6 true (retV (kFa 3 [x9]) h) h) fun x10 h =>
  bndC (gsel x6 true (retV (qLd h none [x10]) h) h) fun x11 h =>
  bndC (gsel x6 true (retV (kMov [x1]) h) h) fun x12 h =>
  bndC (gsel x6 true (retV (kBin .sub [x12, (.int .i64 (.ofNat (nat_lit 1)))]) h) h) fun x13 h =>
  bndC (gsel x6 true (retV (kIaS 1 [x11, x13]) h) h) fun x14 h =>
  bndC (gsel x6 true (retV (qLd h none [x14]) h) h) fun x15 h =>
  bndC (gsel x6 true (f65 [x15] h) h) fun x16 h =>
  bndV (kPick [x6, x16, (.bool false)]) fun x17 =>
  ret1 x17 h
def a20 : List Ann := []
theorem e20 : f20 = evFun Tryz.prog 20 2 a20 t20 := by kernel_rfl
theorem o20 : FnOk Tryz.prog 20 f20 := .of hmO (show enters Tryz.prog 20 = true by kernel_rfl) e20 (.cons o64 (.cons o65 (.nil)))

/- concord/concordlaw25.ClusterRuns -/
noncomputable def l4 : List (Nat × (List V → HT → Option J)) := [(17, f17), (18, f18), (19, f19), (20, f20)]
noncomputable def t4 : Fns := tab l4
noncomputable def f4_0 (x1 : V) (x45 : V) (x72 : V) (x77 : V) (h : HT) : Option J := bndC (gsel x72 true (retV (qLd h none [x77]) h) h) fun x78 h =>
  bndC (gsel x72 true (retV (kBin .eql [x78, (.int .i64 (.ofNat (nat_lit 1)))]) h) h) fun x79 h =>
  bndV (kPick [x72, x79, (.bool false)]) fun x80 =>
  bndC (gsel x80 true (retV (kMov [x45]) h) h) fun x82 h =>
  bndC (gsel x80 true (retV (kIaS 14 [x82, (.int .i64 (.ofNat (nat_lit 1)))]) h) h) fun x83 h =>
  bndC (gsel x80 true (retV (kFa 2 [x83]) h) h) fun x84 h =>
  bndC (gsel x80 true (retV (kFa 2 [x84]) h) h) fun x85 h =>
  bndC (gsel x80 true (retV (qLd h none [x85]) h) h) fun x86 h =>
  bndC (gsel x80 true (retV (kBin .eql [x86, (.int .i64 (.ofNat (nat_lit 1)))]) h) h) fun x87 h =>
  bndV (kPick [x80, x87, (.bool false)]) fun x88 =>
  bndC (gsel x88 true (retV (kMov [x1]) h) h) fun x90 h =>
  bndC (gsel x88 true (f20 [x90, (.int .i64 (.ofNat (nat_lit 1)))] h) h) fun x91 h =>
  bndC (gsel x88 true (retV (kUn .not [x91]) h) h) fun x92 h =>
  bndV (kPick [x88, x92, (.bool false)]) fun x93 =>
  ret1 x93 h
noncomputable def f4_1 (x1 : V) (x45 : V) (x58 : V) (x61 : V) (h : HT) : Option J := bndC (gsel x58 true (retV (kFa 0 [x61]) h) h) fun x62 h =>
  bndC (gsel x58 true (retV (qLd h none [x62]) h) h) fun x63 h =>
  bndC (gsel x58 true (retV (kBin .eql [x63, (.int .i64 (.ofNat (nat_lit 2)))]) h) h) fun x64 h =>
  bndV (kPick [x58, x64, (.bool false)]) fun x65 =>
  bndC (gsel x65 true (retV (kMov [x45]) h) h) fun x67 h =>
  bndC (gsel x65 true (retV (kIaS 14 [x67, (.int .i64 (.ofNat (nat_lit 1)))]) h) h) fun x68 h =>
  bndC (gsel x65 true (retV (kFa 1 [x68]) h) h) fun x69 h =>
  bndC (gsel x65 true (retV (qLd h none [x69]) h) h) fun x70 h =>
  bndC (gsel x65 true (retV (kBin .eql [x70, (.int .i64 (.ofNat (nat_lit 1)))]) h) h) fun x71 h =>
  bndV (kPick [x65, x71, (.bool false)]) fun x72 =>
  bndC (gsel x72 true (retV (kMov [x45]) h) h) fun x74 h =>
  bndC (gsel x72 true (retV (kIaS 14 [x74, (.int .i64 (.ofNat (nat_lit 1)))]) h) h) fun x75 h =>
  bndC (gsel x72 true (retV (kFa 9 [x75]) h) h) fun x76 h =>
  bndC (gsel x72 true (retV (kFa 3 [x76]) h) h) fun x77 h =>
  (f4_0 x1 x45 x72 x77 h)
noncomputable def f4_2 (x1 : V) (vs : List V) (h : HT) : Option J := unc vs fun x5 vs =>
  bndC (f19 [x1] h) fun x45 h =>
  bndC (gsel x5 true (retV (kMov [x45]) h) h) fun x48 h =>
  bndC (gsel x5 true (retV (kLenS [x48]) h) h) fun x49 h =>
  bndC (gsel x5 true (retV (kBin .eql [x49, (.int .i64 (.ofNat (nat_lit 2)))]) h) h) fun x50 h =>
  bndV (kPick [x5, x50, (.bool false)]) fun x51 =>
  bndC (gsel x51 true (retV (kMov [x45]) h) h) fun x53 h =>
  bndC (gsel x51 true (retV (kIaS 14 [x53, (.int .i64 (.ofNat (nat_lit 0)))]) h) h) fun x54 h =>
  bndC (gsel x51 true (retV (kFa 0 [x54]) h) h) fun x55 h =>
  bndC (gsel x51 true (retV (qLd h none [x55]) h) h) fun x56 h =>
  bndC (gsel x51 true (retV (kBin .eql [x56, (.int .i64 (.ofNat (nat_lit 1)))]) h) h) fun x57 h =>
  bndV (kPick [x51, x57, (.bool false)]) fun x58 =>
  bndC (gsel x58 true (retV (kMov [x45]) h) h) fun x60 h =>
  bndC (gsel x58 true (retV (kIaS 14 [x60, (.int .i64 (.ofNat (nat_lit 1)))]) h) h) fun x61 h =>
  (f4_1 x1 x45 x58 x61 h)
noncomputable def f4_3 (x10 : V) (x34 : V) (h : HT) : Option J := bndJ (loopF (fun rc vs h => unc vs fun x1 vs =>
  unc vs fun x5 vs =>
  unc vs fun x6 vs =>
  bndV (kBin .lss [x6, (.int .i64 (.ofNat (nat_lit 100)))]) fun x36 =>
  bndC (gsel x36 true (retV (kMov [x1]) h) h) fun x38 h =>
  bndC (gsel x36 true (retV (kBld [(.int .i64 (.ofNat (nat_lit 0))), (.int .i64 (.ofNat (nat_lit 0))), (.int .i64 (.ofNat (nat_lit 0))), (.int .i64 (.ofNat (nat_lit 0))), (.int .i64 (.ofNat (nat_lit 0))), (.int .i64 (.ofNat (nat_lit 0))), (.int .i64 (.ofNat (nat_lit 0))), (.str (sb [])), (.str (sb [])), (.str (sb [])), (.str (sb [])), (.slice none 0 true 0)] [(0, 1)] [(.int .i64 (.ofNat (nat_lit 2)))]) h) h) fun x39 h =>
  bndC (gsel x36 true (f18 [x38, x39] h) h) fun x40 h =>
  bndV (kPick [x36, x40, (.bool false)]) fun x41 =>
  tstv x41 (bndV (kBin .add [x6, (.int .i64 (.ofNat (nat_lit 1)))]) fun x43 =>
  rc [x1, x5, x43] h)
  (some ⟨0, [x1, x5], h⟩)) 1000000 [x10, x34, (.int .i64 (.ofNat (nat_lit 0)))] h)
  fun j vs h => unc vs fun x1 vs =>
  (f4_2 x1 vs h)
noncomputable def f4_4 (x10 : V) (x15 : V) (x17 : V) (x19 : V) (h : HT) : Option J := bndC (gsel x17 false (retV (kBin .neq [x19, (.int .i64 (.ofNat (nat_lit 0)))]) h) h) fun x20 h =>
  bndV (kPick [x17, (.bool true), x20]) fun x21 =>
  bndC (gsel x21 false (retV (kMov [x15]) h) h) fun x23 h =>
  bndC (gsel x21 false (retV (kBin .neq [x23, (.int .i64 (.ofNat (nat_lit 1)))]) h) h) fun x24 h =>
  bndV (kPick [x21, (.bool true), x24]) fun x25 =>
  bndC (gsel x25 false (retV (kMov [x10]) h) h) fun x27 h =>
  bndC (gsel x25 false (retV (kBld [(.int .i64 (.ofNat (nat_lit 0))), (.int .i64 (.ofNat (nat_lit 0))), (.int .i64 (.ofNat (nat_lit 0))), (.int .i64 (.ofNat (nat_lit 0))), (.int .i64 (.ofNat (nat_lit 0))), (.int .i64 (.ofNat (nat_lit 0))), (.int .i64 (.ofNat (nat_lit 0))), (.str (sb [])), (.str (sb [])), (.str (sb [])), (.str (sb [])), (.slice none 0 true 0)] [(0, 1)] [(.int .i64 (.ofNat (nat_lit 2)))]) h) h) fun x28 h =>
  bndC (gsel x25 false (f18 [x27, x28] h) h) fun x29 h =>
  bndV (kPick [x25, (.bool true), x29]) fun x30 =>
  tstv x30 (ret1 (.bool false) h)
  (bndV (kBld [(.int .i64 (.ofNat (nat_lit 0))), (.int .i64 (.ofNat (nat_lit 0))), (.int .i64 (.ofNat (nat_lit 0))), (.str (sb [])), (.str (sb [])), (.str (sb [])), (.str (sb []))] [(0, 1), (3, 1)] [(.int .i64 (.ofNat (nat_lit 2))), (.str (sb [97]))]) fun x32 =>
  bndV (kBld [(.int .i64 (.ofNat (nat_lit 0))), (.int .i64 (.ofNat (nat_lit 0))), (.int .i64 (.ofNat (nat_lit 0))), (.int .i64 (.ofNat (nat_lit 0))), (.int .i64 (.ofNat (nat_lit 0))), (.int .i64 (.ofNat (nat_lit 0))), (.int .i64 (.ofNat (nat_lit 0))), (.str (sb [])), (.str (sb [])), (.str (sb [])), (.str (sb [])), (.slice none 0 true 0)] [(0, 1), (3, 1), (4, 7)] [(.int .i64 (.ofNat (nat_lit 1))), (.int .i64 (.ofNat (nat_lit 1))), x32]) fun x33 =>
  bndC (f18 [x10, x33] h) fun x34 h =>
  (f4_3 x10 x34 h))
noncomputable def f4 (vs : List V) (h : HT) : Option J := bndC (f17 [(.int .i64 (.ofNat (nat_lit 3)))] h) fun x9 h =>
  bndV (kExt 0 [x9]) fun x10 =>
  bndV (kExt 1 [x9]) fun x11 =>
  bndC (f17 [(.int .i64 (.ofNat (nat_lit 4)))] h) fun x13 h =>
  bndV (kExt 0 [x13]) fun x14 =>
  bndV (kExt 1 [x13]) fun x15 =>
  bndV (kEqN false [x10, (.ptr none)]) fun x17 =>
  bndC (gsel x17 false (retV (kMov [x11]) h) h) fun x19 h =>
  (f4_4 x10 x15 x17 x19 h)
def a4 : List Ann := [.no, .no, .loop [1, 5, 6] [((.exit 0), [1, 5])], .no, .no]
theorem e4 : f4 = evFun Tryz.prog 4 0 a4 t4 := by kernel_rfl
theorem o4 : FnOk Tryz.prog 4 f4 := .of hmO (show enters Tryz.prog 4 = true by kernel_rfl) e4 (.cons o17 (.cons o18 (.cons o19 (.cons o20 (.nil)))))

/- (*concord/node.Node).Done -/
noncomputable def l14 : List (Nat × (List V → HT → Option J)) := []
noncomputable def t14 : Fns := tab l14

noncomputable def f14 (vs : List V) (h : HT) : Option J := unc vs fun x0 vs =>
  bndN (kAlloc [(.int .i64 (.ofNat (nat_lit 0))), (.int .i64 (.ofNat (nat_lit 0))), (.int .i64 (.ofNat (nat_lit 0))), (.int .i64 (.ofNat (nat_lit 0))), (.int .i64 (.ofNat (nat_lit 0))), (.int .i64 (.ofNat (nat_lit 0))), (.int .i64 (.ofNat (nat_lit 0)))] []) h fun x2 h =>
  bndV (kNilc [x0]) fun x4 =>
  bndV (kFa 55 [x4]) fun x5 =>
  bndV (qLd h (some 7) [x5]) fun x6 =>
  bndE (dSt h 7 [x2, x6]) h fun _ h =>
  bndV (qLd h (some 7) [x2]) fun x900000 =>
  ret1 x900000 h
def a14 : List Ann := []
theorem e14 : f14 = evFun Tryz.prog 14 1 a14 t14 := by kernel_rfl
theorem o14 : FnOk Tryz.prog 14 f14 := .of hmO (show enters Tryz.prog 14 = true by kernel_rfl) e14 (.nil)

/- slices.Equal[[]concord/api.Pair,concord/api.Pair] -/
noncomputable def l50 : List (Nat × (List V → HT → Option J)) := []
noncomputable def t50 : Fns := tab l50
noncomputable def f50_0 (rc : List V → HT → Option J) (x0 : V) (vs : List V) (h : HT) : Option J := unc vs fun x1 vs =>
  unc vs fun x12 vs =>
  unc vs fun x13 vs =>
  bndV (kBin .lss [x13, x12]) fun x14 =>
  tstv x14 (bndV (kIaS 3 [x0, x13]) fun x18 =>
  bndV (qLd h (some 3) [x18]) fun x19 =>
  bndV (kIaS 3 [x1, x13]) fun x22 =>
  bndV (qLd h (some 3) [x22]) fun x23 =>
  bndV (kEqF true [.s, .s, .i] [x19, x23]) fun x24 =>
  tstv x24 (some ⟨1, [(.bool false)], h⟩)
  (bndV (kBin .add [x13, (.int .i64 (.ofNat (nat_lit 1)))]) fun x25 =>
  rc [x0, x1, x12, x25] h))
  (some ⟨0, [], h⟩)
noncomputable def f50_1 (x0 : V) (vs : List V) (h : HT) : Option J := unc vs fun x1 vs =>
  bndV (kLenS [x0]) fun x7 =>
  bndV (kLenS [x1]) fun x9 =>
  bndV (kBin .neq [x7, x9]) fun x10 =>
  tstv x10 (ret1 (.bool false) h)
  (bndV (kLenS [x0]) fun x12 =>
  bndJ (loopF (fun rc vs h => unc vs fun x0 vs =>
  (f50_0 rc x0 vs h)) 1000000 [x0, x1, x12, (.int .i64 (.ofNat (nat_lit 0)))] h)
  fun j vs h => nsw j (ret1 (.bool true) h)
  fun j => unc vs fun x4 vs =>
  ret1 x4 h)
noncomputable def f50 (vs : List V) (h : HT) : Option J := unc vs fun x0 vs =>
  (f50_1 x0 vs h)
def a50 : List Ann := [.no, .no, .loop [0, 1, 12, 13] [((.exit 0), []), (.ret, [4])], .no, .no, .no]
theorem e50 : f50 = evFun Tryz.prog 50 2 a50 t50 := by kernel_rfl
theorem o50 : FnOk Tryz.prog 50 f50 := .of hmO (show enters Tryz.prog 50 = true by kernel_rfl) e50 (.nil)

/- concord/state.same -/
noncomputable def l49 : List (Nat × (List V → HT → Option J)) := [(50, f50)]
noncomputable def t49 : Fns := tab l49
noncomputable def f49_0 (x2 : V) (x3 : V) (x16 : V) (x19 : V) (x21 : V) (h : HT) : Option J := bndC (gsel x16 true (retV (kBin .eql [x19, x21]) h) h) fun x22 h =>
  bndV (kPick [x16, x22, (.bool false)]) fun x23 =>
  bndC (gsel x23 true (retV (kFa 3 [x2]) h) h) fun x25 h =>
  bndC (gsel x23 true (retV (qLd h none [x25]) h) h) fun x26 h =>
  bndC (gsel x23 true (retV (kFa 3 [x3]) h) h) fun x27 h =>
  bndC (gsel x23 true (retV (qLd h none [x27]) h) h) fun x28 h =>
  bndC (gsel x23 true (retV (kBin .eql [x26, x28]) h) h) fun x29 h =>
  bndV (kPick [x23, x29, (.bool false)]) fun x30 =>
  bndC (gsel x30 true (retV (kFa 4 [x2]) h) h) fun x32 h =>
  bndC (gsel x30 true (retV (qLd h none [x32]) h) h) fun x33 h =>
  bndC (gsel x30 true (retV (kFa 4 [x3]) h) h) fun x34 h =>
  bndC (gsel x30 true (retV (qLd h none [x34]) h) h) fun x35 h =>
  bndC (gsel x30 true (f50 [x33, x35] h) h) fun x36 h =>
  bndV (kPick [x30, x36, (.bool false)]) fun x37 =>
  ret1 x37 h
noncomputable def f49_1 (x2 : V) (x3 : V) (x5 : V) (h : HT) : Option J := bndV (qLd h none [x5]) fun x6 =>
  bndV (kFa 0 [x3]) fun x7 =>
  bndV (qLd h none [x7]) fun x8 =>
  bndV (kBin .eql [x6, x8]) fun x9 =>
  bndC (gsel x9 true (retV (kFa 1 [x2]) h) h) fun x11 h =>
  bndC (gsel x9 true (retV (qLd h none [x11]) h) h) fun x12 h =>
  bndC (gsel x9 true (retV (kFa 1 [x3]) h) h) fun x13 h =>
  bndC (gsel x9 true (retV (qLd h none [x13]) h) h) fun x14 h =>
  bndC (gsel x9 true (retV (kEqB false [x12, x14]) h) h) fun x15 h =>
  bndV (kPick [x9, x15, (.bool false)]) fun x16 =>
  bndC (gsel x16 true (retV (kFa 2 [x2]) h) h) fun x18 h =>
  bndC (gsel x16 true (retV (qLd h none [x18]) h) h) fun x19 h =>
  bndC (gsel x16 true (retV (kFa 2 [x3]) h) h) fun x20 h =>
  bndC (gsel x16 true (retV (qLd h none [x20]) h) h) fun x21 h =>
  (f49_0 x2 x3 x16 x19 x21 h)
noncomputable def f49 (vs : List V) (h : HT) : Option J := unc vs fun x0 vs =>
  unc vs fun x1 vs =>
  bndN (kBox [x0]) h fun x2 h =>
  bndN (kBox [x1]) h fun x3 h =>
  bndV (kFa 0 [x2]) fun x5 =>
  (f49_1 x2 x3 x5 h)
def a49 : List Ann := []
theorem e49 : f49 = evFun Tryz.prog 49 2 a49 t49 := by kernel_rfl
theorem o49 : FnOk Tryz.prog 49 f49 := .of hmO (show enters Tryz.prog 49 = true by kernel_rfl) e49 (.cons o50 (.nil))

/- concord/state.Same -/
noncomputable def l15 : List (Nat × (List V → HT → Option J)) := [(49, f49), (50, f50)]
noncomputable def t15 : Fns := tab l15
noncomputable def f15_0 (rc : List V → HT → Option J) (x2 : V) (x3 : V) (x6 : V) (x8 : V) (x9 : V) (x14 : V) (x19 : V) (h : HT) : Option J := bndV (kBin .neq [x14, x19]) fun x20 =>
  bndC (gsel x20 false (retV (kFa 1 [x6]) h) h) fun x22 h =>
  bndC (gsel x20 false (retV (qLd h (some 5) [x22]) h) h) fun x23 h =>
  bndC (gsel x20 false (retV (kMov [x9]) h) h) fun x24 h =>
  bndC (gsel x20 false (retV (kFa 1 [x3]) h) h) fun x25 h =>
  bndC (gsel x20 false (retV (kIaA 8 6 [x25, x24]) h) h) fun x26 h =>
  bndC (gsel x20 false (retV (kFa 1 [x26]) h) h) fun x27 h =>
  bndC (gsel x20 false (retV (qLd h (some 5) [x27]) h) h) fun x28 h =>
  bndC (gsel x20 false (f49 [x23, x28] h) h) fun x29 h =>
  bndC (gsel x20 false (retV (kUn .not [x29]) h) h) fun x30 h =>
  bndV (kPick [x20, (.bool true), x30]) fun x31 =>
  tstv x31 (some ⟨1, [(.bool false)], h⟩)
  (bndV (kBin .add [x9, (.int .i64 (.ofNat (nat_lit 1)))]) fun x32 =>
  rc [x2, x3, x8, x32] h)
noncomputable def f15_1 (rc : List V → HT → Option J) (x2 : V) (x3 : V) (vs : List V) (h : HT) : Option J := unc vs fun x8 vs =>
  unc vs fun x9 vs =>
  bndV (kBin .lss [x9, (.int .i64 (.ofNat (nat_lit 8)))]) fun x10 =>
  tstv x10 (bndV (kIxA 8 6 true [x8, x9]) fun x12 =>
  bndN (kAlloc [(.int .i64 (.ofNat (nat_lit 0))), (.int .i64 (.ofNat (nat_lit 0))), (.bool false), (.str (sb [])), (.int .i64 (.ofNat (nat_lit 0))), (.slice none 0 true 0)] []) h fun x6 h =>
  bndE (dSt h 6 [x6, x12]) h fun _ h =>
  bndV (kFa 0 [x6]) fun x13 =>
  bndV (qLd h none [x13]) fun x14 =>
  bndV (kFa 1 [x3]) fun x16 =>
  bndV (kIaA 8 6 [x16, x9]) fun x17 =>
  bndV (kFa 0 [x17]) fun x18 =>
  bndV (qLd h none [x18]) fun x19 =>
  (f15_0 rc x2 x3 x6 x8 x9 x14 x19 h))
  (some ⟨0, [x2, x3], h⟩)
noncomputable def f15_2 (x2 : V) (x3 : V) (x8 : V) (h : HT) : Option J := bndJ (loopF (fun rc vs h => unc vs fun x2 vs =>
  unc vs fun x3 vs =>
  (f15_1 rc x2 x3 vs h)) 1000000 [x2, x3, x8, (.int .i64 (.ofNat (nat_lit 0)))] h)
  fun j vs h => nsw j (unc vs fun x2 vs =>
  unc vs fun x3 vs =>
  bndV (kFa 0 [x2]) fun x33 =>
  bndV (qLd h none [x33]) fun x34 =>
  bndV (kFa 0 [x3]) fun x35 =>
  bndV (qLd h none [x35]) fun x36 =>
  bndC (f50 [x34, x36] h) fun x37 h =>
  ret1 x37 h)
  fun j => unc vs fun x4 vs =>
  ret1 x4 h
noncomputable def f15 (vs : List V) (h : HT) : Option J := unc vs fun x0 vs =>
  unc vs fun x1 vs =>
  bndN (kBox [x0]) h fun x2 h =>
  bndN (kBox [x1]) h fun x3 h =>
  bndV (kFa 1 [x2]) fun x7 =>
  bndV (qLd h (some 48) [x7]) fun x8 =>
  (f15_2 x2 x3 x8 h)
def a15 : List Ann := [.no, .loop [2, 3, 8, 9] [((.exit 0), [2, 3]), (.ret, [4])], .no, .no, .no]
theorem e15 : f15 = evFun Tryz.prog 15 2 a15 t15 := by kernel_rfl
theorem o15 : FnOk Tryz.prog 15 f15 := .of hmO (show enters Tryz.prog 15 = true by kernel_rfl) e15 (.cons o49 (.cons o50 (.nil)))

/- concord/state.Play -/
noncomputable def l51 : List (Nat × (List V → HT → Option J)) := [(139, f139)]
noncomputable def t51 : Fns := tab l51
noncomputable def f51_0 (rc : List V → HT → Option J) (x2 : V) (x4 : V) (x6 : V) (x12 : V) (x13 : V) (x14 : V) (x17 : V) (h : HT) : Option J := bndN (kAlloc [(.int .i64 (.ofNat (nat_lit 0))), (.int .i64 (.ofNat (nat_lit 0))), (.int .i64 (.ofNat (nat_lit 0))), (.str (sb [])), (.str (sb [])), (.str (sb [])), (.str (sb []))] []) h fun x8 h =>
  bndE (dSt h 7 [x8, x17]) h fun _ h =>
  bndN (kAlloc [(.int .i64 (.ofNat (nat_lit 0))), (.bool false), (.str (sb [])), (.int .i64 (.ofNat (nat_lit 0))), (.slice none 0 true 0)] []) h fun x9 h =>
  bndV (qLd h (some 49) [x2]) fun x19 =>
  bndV (qLd h (some 7) [x8]) fun x20 =>
  bndC (noF [x19, x20] h) fun x21 h =>
  bndV (kExt 0 [x21]) fun x22 =>
  bndV (kExt 1 [x21]) fun x23 =>
  bndE (dSt h 49 [x2, x22]) h fun _ h =>
  bndE (dSt h 5 [x9, x23]) h fun _ h =>
  bndV (qLd h (some 5) [x9]) fun x25 =>
  bndN (kBsl 5 1 [(.int .i64 (.ofNat (nat_lit 0))), (.bool false), (.str (sb [])), (.int .i64 (.ofNat (nat_lit 0))), (.slice none 0 true 0)] [(0, 5)] [x25]) h fun x26 h =>
  bndE (dApp h 5 64 [x6, x26]) h fun x27 h =>
  bndV (kBin .add [x14, (.int .i64 (.ofNat (nat_lit 1)))]) fun x28 =>
  rc [x2, x4, x27, x12, x13, x28] h
noncomputable def f51_1 (x1 : V) (x2 : V) (x4 : V) (x13 : V) (h : HT) : Option J := bndJ (loopF (fun rc vs h => unc vs fun x2 vs =>
  unc vs fun x4 vs =>
  unc vs fun x6 vs =>
  unc vs fun x12 vs =>
  unc vs fun x13 vs =>
  unc vs fun x14 vs =>
  bndV (kBin .lss [x14, x13]) fun x15 =>
  tstv x15 (bndV (kIaS 7 [x12, x14]) fun x16 =>
  bndV (qLd h (some 7) [x16]) fun x17 =>
  (f51_0 rc x2 x4 x6 x12 x13 x14 x17 h))
  (some ⟨0, [x2, x4, x6], h⟩)) 1000000 [x2, x4, (.slice none 0 true 0), x1, x13, (.int .i64 (.ofNat (nat_lit 0)))] h)
  fun j vs h => unc vs fun x2 vs =>
  unc vs fun x4 vs =>
  unc vs fun x6 vs =>
  bndV (qLd h (some 49) [x2]) fun x29 =>
  bndE (dSt h 49 [x4, x29]) h fun _ h =>
  bndV (qLd h (some 49) [x4]) fun x900000 =>
  ret1 (.tuple [x900000, x6]) h
noncomputable def f51 (vs : List V) (h : HT) : Option J := unc vs fun x0 vs =>
  unc vs fun x1 vs =>
  bndN (kBox [x0]) h fun x2 h =>
  bndN (kAlloc [(.slice none 0 true 0), (.int .i64 (.ofNat (nat_lit 0))), (.int .i64 (.ofNat (nat_lit 0))), (.bool false), (.str (sb [])), (.int .i64 (.ofNat (nat_lit 0))), (.slice none 0 true 0), (.int .i64 (.ofNat (nat_lit 0))), (.int .i64 (.ofNat (nat_lit 0))), (.bool false), (.str (sb [])), (.int .i64 (.ofNat (nat_lit 0))), (.slice none 0 true 0), (.int .i64 (.ofNat (nat_lit 0))), (.int .i64 (.ofNat (nat_lit 0))), (.bool false), (.str (sb [])), (.int .i64 (.ofNat (nat_lit 0))), (.slice none 0 true 0), (.int .i64 (.ofNat (nat_lit 0))), (.int .i64 (.ofNat (nat_lit 0))), (.bool false), (.str (sb [])), (.int .i64 (.ofNat (nat_lit 0))), (.slice none 0 true 0), (.int .i64 (.ofNat (nat_lit 0))), (.int .i64 (.ofNat (nat_lit 0))), (.bool false), (.str (sb [])), (.int .i64 (.ofNat (nat_lit 0))), (.slice none 0 true 0), (.int .i64 (.ofNat (nat_lit 0))), (.int .i64 (.ofNat (nat_lit 0))), (.bool false), (.str (sb [])), (.int .i64 (.ofNat (nat_lit 0))), (.slice none 0 true 0), (.int .i64 (.ofNat (nat_lit 0))), (.int .i64 (.ofNat (nat_lit 0))), (.bool false), (.str (sb [])), (.int .i64 (.ofNat (nat_lit 0))), (.slice none 0 true 0), (.int .i64 (.ofNat (nat_lit 0))), (.int .i64 (.ofNat (nat_lit 0))), (.bool false), (.str (sb [])), (.int .i64 (.ofNat (nat_lit 0))), (.slice none 0 true 0)] []) h fun x4 h =>
  bndV (qLd h (some 49) [x2]) fun x10 =>
  bndC (f139 [x10] h) fun x11 h =>
  bndE (dSt h 49 [x2, x11]) h fun _ h =>
  bndV (kLenS [x1]) fun x13 =>
  (f51_1 x1 x2 x4 x13 h)
def a51 : List Ann := [.no, .loop [2, 4, 6, 12, 13, 14] [((.exit 0), [2, 4, 6])], .no, .no]
theorem e51 : f51 = evFun Tryz.prog 51 2 a51 t51 := by kernel_rfl
theorem o51 : FnOk Tryz.prog 51 f51 := .of hmO (show enters Tryz.prog 51 = true by kernel_rfl) e51 (.cons o139 (.nil))

/- (*concord/node.Node).State -/
noncomputable def l16 : List (Nat × (List V → HT → Option J)) := [(51, f51)]
noncomputable def t16 : Fns := tab l16

noncomputable def f16 (vs : List V) (h : HT) : Option J := unc vs fun x0 vs =>
  bndN (kAlloc [(.slice none 0 true 0), (.int .i64 (.ofNat (nat_lit 0))), (.int .i64 (.ofNat (nat_lit 0))), (.bool false), (.str (sb [])), (.int .i64 (.ofNat (nat_lit 0))), (.slice none 0 true 0), (.int .i64 (.ofNat (nat_lit 0))), (.int .i64 (.ofNat (nat_lit 0))), (.bool false), (.str (sb [])), (.int .i64 (.ofNat (nat_lit 0))), (.slice none 0 true 0), (.int .i64 (.ofNat (nat_lit 0))), (.int .i64 (.ofNat (nat_lit 0))), (.bool false), (.str (sb [])), (.int .i64 (.ofNat (nat_lit 0))), (.slice none 0 true 0), (.int .i64 (.ofNat (nat_lit 0))), (.int .i64 (.ofNat (nat_lit 0))), (.bool false), (.str (sb [])), (.int .i64 (.ofNat (nat_lit 0))), (.slice none 0 true 0), (.int .i64 (.ofNat (nat_lit 0))), (.int .i64 (.ofNat (nat_lit 0))), (.bool false), (.str (sb [])), (.int .i64 (.ofNat (nat_lit 0))), (.slice none 0 true 0), (.int .i64 (.ofNat (nat_lit 0))), (.int .i64 (.ofNat (nat_lit 0))), (.bool false), (.str (sb [])), (.int .i64 (.ofNat (nat_lit 0))), (.slice none 0 true 0), (.int .i64 (.ofNat (nat_lit 0))), (.int .i64 (.ofNat (nat_lit 0))), (.bool false), (.str (sb [])), (.int .i64 (.ofNat (nat_lit 0))), (.slice none 0 true 0), (.int .i64 (.ofNat (nat_lit 0))), (.int .i64 (.ofNat (nat_lit 0))), (.bool false), (.str (sb [])), (.int .i64 (.ofNat (nat_lit 0))), (.slice none 0 true 0)] []) h fun x2 h =>
  bndV (kNilc [x0]) fun x7 =>
  bndV (kFa 6 [x7]) fun x8 =>
  bndV (qLd h (some 49) [x8]) fun x9 =>
  bndC (f51 [x9, (.slice none 0 true 0)] h) fun x10 h =>
  bndV (kExt 0 [x10]) fun x11 =>
  bndV (kExt 1 [x10]) fun x12 =>
  bndN (kAlloc [(.slice none 0 true 0), (.int .i64 (.ofNat (nat_lit 0))), (.int .i64 (.ofNat (nat_lit 0))), (.bool false), (.str (sb [])), (.int .i64 (.ofNat (nat_lit 0))), (.slice none 0 true 0), (.int .i64 (.ofNat (nat_lit 0))), (.int .i64 (.ofNat (nat_lit 0))), (.bool false), (.str (sb [])), (.int .i64 (.ofNat (nat_lit 0))), (.slice none 0 true 0), (.int .i64 (.ofNat (nat_lit 0))), (.int .i64 (.ofNat (nat_lit 0))), (.bool false), (.str (sb [])), (.int .i64 (.ofNat (nat_lit 0))), (.slice none 0 true 0), (.int .i64 (.ofNat (nat_lit 0))), (.int .i64 (.ofNat (nat_lit 0))), (.bool false), (.str (sb [])), (.int .i64 (.ofNat (nat_lit 0))), (.slice none 0 true 0), (.int .i64 (.ofNat (nat_lit 0))), (.int .i64 (.ofNat (nat_lit 0))), (.bool false), (.str (sb [])), (.int .i64 (.ofNat (nat_lit 0))), (.slice none 0 true 0), (.int .i64 (.ofNat (nat_lit 0))), (.int .i64 (.ofNat (nat_lit 0))), (.bool false), (.str (sb [])), (.int .i64 (.ofNat (nat_lit 0))), (.slice none 0 true 0), (.int .i64 (.ofNat (nat_lit 0))), (.int .i64 (.ofNat (nat_lit 0))), (.bool false), (.str (sb [])), (.int .i64 (.ofNat (nat_lit 0))), (.slice none 0 true 0), (.int .i64 (.ofNat (nat_lit 0))), (.int .i64 (.ofNat (nat_lit 0))), (.bool false), (.str (sb [])), (.int .i64 (.ofNat (nat_lit 0))), (.slice none 0 true 0)] []) h fun x3 h =>
  bndE (dSt h 49 [x3, x11]) h fun _ h =>
  bndV (qLd h (some 49) [x3]) fun x13 =>
  bndE (dSt h 49 [x2, x13]) h fun _ h =>
  bndV (qLd h (some 49) [x2]) fun x900000 =>
  ret1 x900000 h
def a16 : List Ann := []
theorem e16 : f16 = evFun Tryz.prog 16 1 a16 t16 := by kernel_rfl
theorem o16 : FnOk Tryz.prog 16 f16 := .of hmO (show enters Tryz.prog 16 = true by kernel_rfl) e16 (.cons o51 (.nil))

/- (*concord/cluster.Cluster).Nodes -/
noncomputable def l70 : List (Nat × (List V → HT → Option J)) := []
noncomputable def t70 : Fns := tab l70

noncomputable def f70 (vs : List V) (h : HT) : Option J := unc vs fun x0 vs =>
  bndV (kNilc [x0]) fun x4 =>
  bndV (kFa 0 [x4]) fun x5 =>
  bndV (qLd h none [x5]) fun x6 =>
  ret1 x6 h
def a70 : List Ann := []
theorem e70 : f70 = evFun Tryz.prog 70 1 a70 t70 := by kernel_rfl
theorem o70 : FnOk Tryz.prog 70 f70 := .of hmO (show enters Tryz.prog 70 = true by kernel_rfl) e70 (.nil)

/- concord/audit.up -/
noncomputable def l68 : List (Nat × (List V → HT → Option J)) := [(58, f58), (70, f70)]
noncomputable def t68 : Fns := tab l68
noncomputable def f68_0 (rc : List V → HT → Option J) (x0 : V) (x3 : V) (x7 : V) (x8 : V) (x9 : V) (h : HT) : Option J := tstv x9 (bndC (f58 [x0, x8] h) fun x13 h =>
  bndV (kEqN true [x13, (.ptr none)]) fun x15 =>
  bndJ (tstv x15 (bndN (kBsl 1 1 [(.ptr none)] [(0, 1)] [x13]) h fun x18 h =>
  bndE (dApp h 1 8 [x3, x18]) h fun x19 h =>
  some ⟨0, [x0, x19, x7, x8], h⟩)
  (some ⟨0, [x0, x3, x7, x8], h⟩))
  fun j vs h => unc vs fun x0 vs =>
  unc vs fun x3 vs =>
  unc vs fun x7 vs =>
  unc vs fun x8 vs =>
  bndV (kBin .add [x8, (.int .i64 (.ofNat (nat_lit 1)))]) fun x20 =>
  rc [x0, x3, x7, x20] h)
  (some ⟨0, [x3], h⟩)
noncomputable def f68 (vs : List V) (h : HT) : Option J := unc vs fun x0 vs =>
  bndC (f70 [x0] h) fun x7 h =>
  bndJ (loopF (fun rc vs h => unc vs fun x0 vs =>
  unc vs fun x3 vs =>
  unc vs fun x7 vs =>
  unc vs fun x8 vs =>
  bndV (kBin .lss [x8, x7]) fun x9 =>
  (f68_0 rc x0 x3 x7 x8 x9 h)) 1000000 [x0, (.slice none 0 true 0), x7, (.int .i64 (.ofNat (nat_lit 0)))] h)
  fun j vs h => unc vs fun x3 vs =>
  ret1 x3 h
def a68 : List Ann := [.no, .loop [0, 3, 7, 8] [((.exit 0), [3])], .no, .no, .join [(.normal, [0, 3, 7, 8])]]
theorem e68 : f68 = evFun Tryz.prog 68 1 a68 t68 := by kernel_rfl
theorem o68 : FnOk Tryz.prog 68 f68 := .of hmO (show enters Tryz.prog 68 = true by kernel_rfl) e68 (.cons o58 (.cons o70 (.nil)))

/- (*concord/core.Core).Top -/
noncomputable def l224 : List (Nat × (List V → HT → Option J)) := [(120, f120)]
noncomputable def t224 : Fns := tab l224

noncomputable def f224 (vs : List V) (h : HT) : Option J := unc vs fun x0 vs =>
  bndN (kAlloc [(.int .i64 (.ofNat (nat_lit 0))), (.int .i64 (.ofNat (nat_lit 0))), (.int .i64 (.ofNat (nat_lit 0))), (.int .i64 (.ofNat (nat_lit 0))), (.int .i64 (.ofNat (nat_lit 0))), (.int .i64 (.ofNat (nat_lit 0))), (.int .i64 (.ofNat (nat_lit 0)))] []) h fun x2 h =>
  bndV (kNilc [x0]) fun x4 =>
  bndV (kFa 2 [x4]) fun x5 =>
  bndV (qLd h none [x5]) fun x6 =>
  bndC (f120 [x6] h) fun x7 h =>
  bndE (dSt h 7 [x2, x7]) h fun _ h =>
  bndV (qLd h (some 7) [x2]) fun x900000 =>
  ret1 x900000 h
def a224 : List Ann := []
theorem e224 : f224 = evFun Tryz.prog 224 1 a224 t224 := by kernel_rfl
theorem o224 : FnOk Tryz.prog 224 f224 := .of hmO (show enters Tryz.prog 224 = true by kernel_rfl) e224 (.cons o120 (.nil))

/- (*concord/node.Node).Top -/
noncomputable def l149 : List (Nat × (List V → HT → Option J)) := [(224, f224)]
noncomputable def t149 : Fns := tab l149

noncomputable def f149 (vs : List V) (h : HT) : Option J := unc vs fun x0 vs =>
  bndN (kAlloc [(.int .i64 (.ofNat (nat_lit 0))), (.int .i64 (.ofNat (nat_lit 0))), (.int .i64 (.ofNat (nat_lit 0))), (.int .i64 (.ofNat (nat_lit 0))), (.int .i64 (.ofNat (nat_lit 0))), (.int .i64 (.ofNat (nat_lit 0))), (.int .i64 (.ofNat (nat_lit 0)))] []) h fun x2 h =>
  bndV (kNilc [x0]) fun x4 =>
  bndV (kFa 4 [x4]) fun x5 =>
  bndV (qLd h none [x5]) fun x6 =>
  bndC (f224 [x6] h) fun x7 h =>
  bndE (dSt h 7 [x2, x7]) h fun _ h =>
  bndV (qLd h (some 7) [x2]) fun x900000 =>
  ret1 x900000 h
def a149 : List Ann := []
theorem e149 : f149 = evFun Tryz.prog 149 1 a149 t149 := by kernel_rfl
theorem o149 : FnOk Tryz.prog 149 f149 := .of hmO (show enters Tryz.prog 149 = true by kernel_rfl) e149 (.cons o224 (.nil))

/- (*concord/node.Node).Cut -/
noncomputable def l150 : List (Nat × (List V → HT → Option J)) := [(196, f196)]
noncomputable def t150 : Fns := tab l150

noncomputable def f150 (vs : List V) (h : HT) : Option J := unc vs fun x0 vs =>
  bndN (kAlloc [(.int .i64 (.ofNat (nat_lit 0))), (.int .i64 (.ofNat (nat_lit 0))), (.int .i64 (.ofNat (nat_lit 0))), (.int .i64 (.ofNat (nat_lit 0))), (.int .i64 (.ofNat (nat_lit 0))), (.int .i64 (.ofNat (nat_lit 0))), (.int .i64 (.ofNat (nat_lit 0)))] []) h fun x2 h =>
  bndV (kNilc [x0]) fun x4 =>
  bndV (kFa 4 [x4]) fun x5 =>
  bndV (qLd h none [x5]) fun x6 =>
  bndC (f196 [x6] h) fun x7 h =>
  bndE (dSt h 7 [x2, x7]) h fun _ h =>
  bndV (qLd h (some 7) [x2]) fun x900000 =>
  ret1 x900000 h
def a150 : List Ann := []
theorem e150 : f150 = evFun Tryz.prog 150 1 a150 t150 := by kernel_rfl
theorem o150 : FnOk Tryz.prog 150 f150 := .of hmO (show enters Tryz.prog 150 = true by kernel_rfl) e150 (.cons o196 (.nil))

/- (*concord/node.Node).Cell -/
noncomputable def l151 : List (Nat × (List V → HT → Option J)) := [(119, f119)]
noncomputable def t151 : Fns := tab l151

noncomputable def f151 (vs : List V) (h : HT) : Option J := unc vs fun x0 vs =>
  unc vs fun x1 vs =>
  bndN (kBox [x1]) h fun x3 h =>
  bndN (kAlloc [(.int .i64 (.ofNat (nat_lit 0))), (.int .i64 (.ofNat (nat_lit 0))), (.int .i64 (.ofNat (nat_lit 0))), (.int .i64 (.ofNat (nat_lit 0))), (.int .i64 (.ofNat (nat_lit 0))), (.int .i64 (.ofNat (nat_lit 0))), (.int .i64 (.ofNat (nat_lit 0))), (.int .i64 (.ofNat (nat_lit 0))), (.str (sb [])), (.str (sb [])), (.str (sb [])), (.str (sb [])), (.int .i64 (.ofNat (nat_lit 0))), (.int .i64 (.ofNat (nat_lit 0))), (.int .i64 (.ofNat (nat_lit 0))), (.int .i64 (.ofNat (nat_lit 0))), (.int .i64 (.ofNat (nat_lit 0))), (.int .i64 (.ofNat (nat_lit 0))), (.int .i64 (.ofNat (nat_lit 0))), (.int .i64 (.ofNat (nat_lit 0))), (.bool false)] []) h fun x4 h =>
  bndV (kNilc [x0]) fun x7 =>
  bndV (kFa 4 [x7]) fun x8 =>
  bndV (qLd h none [x8]) fun x9 =>
  bndV (qLd h (some 2) [x3]) fun x10 =>
  bndC (f119 [x9, x10] h) fun x11 h =>
  bndV (kExt 0 [x11]) fun x12 =>
  bndV (kExt 1 [x11]) fun x13 =>
  bndE (dSt h 21 [x4, x12]) h fun _ h =>
  bndV (qLd h (some 21) [x4]) fun x900000 =>
  ret1 (.tuple [x900000, x13]) h
def a151 : List Ann := []
theorem e151 : f151 = evFun Tryz.prog 151 2 a151 t151 := by kernel_rfl
theorem o151 : FnOk Tryz.prog 151 f151 := .of hmO (show enters Tryz.prog 151 = true by kernel_rfl) e151 (.cons o119 (.nil))

/- concord/audit.committed -/
noncomputable def l69 : List (Nat × (List V → HT → Option J)) := [(149, f149), (150, f150), (151, f151)]
noncomputable def t69 : Fns := tab l69
noncomputable def f69_0 (x1 : V) (x7 : V) (x8 : V) (x9 : V) (x11 : V) (x12 : V) (x13 : V) (x14 : V) (x15 : V) (x22 : V) (x23 : V) (x24 : V) (x30 : V) (x31 : V) (x84 : V) (h : HT) : Option J := bndJ (tstv x84 (bndV (qLd h (some 2) [x15]) fun x86 =>
  bndV (kBld [] [] []) fun x87 =>
  bndE (dMset h true [.i, .i] [x9, x86, x87]) h fun _ h =>
  some ⟨0, [x1, x7, x8, x9, x11, x12, x13, x14, x22, x23, x24, x30, x31], h⟩)
  (some ⟨0, [x1, x7, x8, x9, x11, x12, x13, x14, x22, x23, x24, x30, x31], h⟩))
  fun j vs h => unc vs fun x1 vs =>
  unc vs fun x7 vs =>
  unc vs fun x8 vs =>
  unc vs fun x9 vs =>
  unc vs fun x11 vs =>
  unc vs fun x12 vs =>
  unc vs fun x13 vs =>
  unc vs fun x14 vs =>
  unc vs fun x22 vs =>
  unc vs fun x23 vs =>
  unc vs fun x24 vs =>
  unc vs fun x30 vs =>
  unc vs fun x31 vs =>
  some ⟨0, [x1, x7, x8, x9, x11, x12, x13, x14, x22, x23, x24, x30, x31], h⟩
noncomputable def f69_1 (x1 : V) (x7 : V) (x8 : V) (x9 : V) (x11 : V) (x12 : V) (x13 : V) (x14 : V) (x15 : V) (x16 : V) (x18 : V) (x22 : V) (x23 : V) (x24 : V) (x30 : V) (x31 : V) (x65 : V) (h : HT) : Option J := tstv x65 (bndV (qLd h (some 2) [x15]) fun x67 =>
  bndV (qLd h (some 2) [x15]) fun x69 =>
  bndN (kBsl 2 1 [(.int .i64 (.ofNat (nat_lit 0))), (.int .i64 (.ofNat (nat_lit 0)))] [(0, 2)] [x69]) h fun x70 h =>
  bndV (qLd h (some 21) [x16]) fun x72 =>
  bndE (dApp h 2 16 [x7, x70]) h fun x71 h =>
  chk1 (sameE (qLd h (some 21) [x16]) x72) (chk1 (sameE (qLd h (some 2) [x15]) x67) (bndE (dMset h true [.i, .i] [x8, x67, x72]) h fun _ h =>
  some ⟨0, [x1, x71, x8, x9, x11, x12, x13, x14, x22, x23, x24, x30, x31], h⟩)))
  (bndV (kFa 5 [x18]) fun x73 =>
  bndV (qLd h (some 7) [x73]) fun x74 =>
  bndV (kFa 5 [x16]) fun x75 =>
  bndV (qLd h (some 7) [x75]) fun x76 =>
  bndV (kEqF true [.i, .i, .i, .s, .s, .s, .s] [x74, x76]) fun x77 =>
  bndC (gsel x77 false (retV (kFa 12 [x18]) h) h) fun x79 h =>
  bndC (gsel x77 false (retV (qLd h (some 8) [x79]) h) h) fun x80 h =>
  bndC (gsel x77 false (retV (kFa 12 [x16]) h) h) fun x81 h =>
  bndC (gsel x77 false (retV (qLd h (some 8) [x81]) h) h) fun x82 h =>
  bndC (gsel x77 false (retV (kEqF true [.i, .i, .i, .i, .i, .i, .i, .i] [x80, x82]) h) h) fun x83 h =>
  bndV (kPick [x77, (.bool true), x83]) fun x84 =>
  (f69_0 x1 x7 x8 x9 x11 x12 x13 x14 x15 x22 x23 x24 x30 x31 x84 h))
noncomputable def f69_2 (x1 : V) (x7 : V) (x8 : V) (x9 : V) (x11 : V) (x12 : V) (x13 : V) (x14 : V) (x15 : V) (x16 : V) (x18 : V) (x22 : V) (x23 : V) (x24 : V) (x30 : V) (x31 : V) (x65 : V) (h : HT) : Option J := bndJ ((f69_1 x1 x7 x8 x9 x11 x12 x13 x14 x15 x16 x18 x22 x23 x24 x30 x31 x65 h))
  fun j vs h => unc vs fun x1 vs =>
  unc vs fun x7 vs =>
  unc vs fun x8 vs =>
  unc vs fun x9 vs =>
  unc vs fun x11 vs =>
  unc vs fun x12 vs =>
  unc vs fun x13 vs =>
  unc vs fun x14 vs =>
  unc vs fun x22 vs =>
  unc vs fun x23 vs =>
  unc vs fun x24 vs =>
  unc vs fun x30 vs =>
  unc vs fun x31 vs =>
  some ⟨0, [x1, x7, x8, x9, x11, x12, x13, x14, x22, x23, x24, x30, x31], h⟩
noncomputable def f69_3 (x1 : V) (x7 : V) (x8 : V) (x9 : V) (x11 : V) (x12 : V) (x13 : V) (x14 : V) (x15 : V) (x22 : V) (x23 : V) (x24 : V) (x30 : V) (x31 : V) (x53 : V) (h : HT) : Option J := bndN (kAlloc [(.int .i64 (.ofNat (nat_lit 0))), (.int .i64 (.ofNat (nat_lit 0))), (.int .i64 (.ofNat (nat_lit 0))), (.int .i64 (.ofNat (nat_lit 0))), (.int .i64 (.ofNat (nat_lit 0))), (.int .i64 (.ofNat (nat_lit 0))), (.int .i64 (.ofNat (nat_lit 0))), (.int .i64 (.ofNat (nat_lit 0))), (.str (sb [])), (.str (sb [])), (.str (sb [])), (.str (sb [])), (.int .i64 (.ofNat (nat_lit 0))), (.int .i64 (.ofNat (nat_lit 0))), (.int .i64 (.ofNat (nat_lit 0))), (.int .i64 (.ofNat (nat_lit 0))), (.int .i64 (.ofNat (nat_lit 0))), (.int .i64 (.ofNat (nat_lit 0))), (.int .i64 (.ofNat (nat_lit 0))), (.int .i64 (.ofNat (nat_lit 0))), (.bool false)] []) h fun x16 h =>
  bndE (dSt h 21 [x16, x53]) h fun _ h =>
  bndV (kFa 0 [x16]) fun x55 =>
  bndV (qLd h none [x55]) fun x56 =>
  bndV (kBin .neq [x56, (.int .i64 (.ofNat (nat_lit 3)))]) fun x57 =>
  tstv x57 (some ⟨0, [x1, x7, x8, x9, x11, x12, x13, x14, x22, x23, x24, x30, x31], h⟩)
  (bndV (qLd h (some 2) [x15]) fun x60 =>
  bndV (kLkp h.heap true [.i, .i] (.agg [(.int .i64 (.ofNat (nat_lit 0))), (.int .i64 (.ofNat (nat_lit 0))), (.int .i64 (.ofNat (nat_lit 0))), (.int .i64 (.ofNat (nat_lit 0))), (.int .i64 (.ofNat (nat_lit 0))), (.int .i64 (.ofNat (nat_lit 0))), (.int .i64 (.ofNat (nat_lit 0))), (.int .i64 (.ofNat (nat_lit 0))), (.str (sb [])), (.str (sb [])), (.str (sb [])), (.str (sb [])), (.int .i64 (.ofNat (nat_lit 0))), (.int .i64 (.ofNat (nat_lit 0))), (.int .i64 (.ofNat (nat_lit 0))), (.int .i64 (.ofNat (nat_lit 0))), (.int .i64 (.ofNat (nat_lit 0))), (.int .i64 (.ofNat (nat_lit 0))), (.int .i64 (.ofNat (nat_lit 0))), (.int .i64 (.ofNat (nat_lit 0))), (.bool false)]) true [x8, x60]) fun x61 =>
  bndV (kExt 0 [x61]) fun x62 =>
  bndV (kExt 1 [x61]) fun x63 =>
  bndN (kAlloc [(.int .i64 (.ofNat (nat_lit 0))), (.int .i64 (.ofNat (nat_lit 0))), (.int .i64 (.ofNat (nat_lit 0))), (.int .i64 (.ofNat (nat_lit 0))), (.int .i64 (.ofNat (nat_lit 0))), (.int .i64 (.ofNat (nat_lit 0))), (.int .i64 (.ofNat (nat_lit 0))), (.int .i64 (.ofNat (nat_lit 0))), (.str (sb [])), (.str (sb [])), (.str (sb [])), (.str (sb [])), (.int .i64 (.ofNat (nat_lit 0))), (.int .i64 (.ofNat (nat_lit 0))), (.int .i64 (.ofNat (nat_lit 0))), (.int .i64 (.ofNat (nat_lit 0))), (.int .i64 (.ofNat (nat_lit 0))), (.int .i64 (.ofNat (nat_lit 0))), (.int .i64 (.ofNat (nat_lit 0))), (.int .i64 (.ofNat (nat_lit 0))), (.bool false)] []) h fun x18 h =>
  bndE (dSt h 21 [x18, x62]) h fun _ h =>
  bndV (kUn .not [x63]) fun x65 =>
  (f69_2 x1 x7 x8 x9 x11 x12 x13 x14 x15 x16 x18 x22 x23 x24 x30 x31 x65 h))
noncomputable def f69_4 (rc : List V → HT → Option J) (vs : List V) (h : HT) : Option J := unc vs fun x1 vs =>
  unc vs fun x7 vs =>
  unc vs fun x8 vs =>
  unc vs fun x9 vs =>
  unc vs fun x11 vs =>
  unc vs fun x12 vs =>
  unc vs fun x13 vs =>
  unc vs fun x14 vs =>
  unc vs fun x22 vs =>
  unc vs fun x23 vs =>
  unc vs fun x24 vs =>
  unc vs fun x30 vs =>
  unc vs fun x31 vs =>
  bndV (kBin .add [x14, (.int .i64 (.ofNat (nat_lit 1)))]) fun x45 =>
  rc [x1, x7, x8, x9, x11, x12, x13, x45, x22, x23, x24, x30, x31] h
noncomputable def f69_5 (rc : List V → HT → Option J) (x1 : V) (x7 : V) (x8 : V) (x9 : V) (x11 : V) (x12 : V) (x13 : V) (x14 : V) (x22 : V) (x23 : V) (x24 : V) (x30 : V) (x31 : V) (h : HT) : Option J := bndV (kIaA 7 1 [x12, x13]) fun x41 =>
  bndV (qLd h none [x41]) fun x42 =>
  bndV (kBin .leq [x14, x42]) fun x43 =>
  tstv x43 (bndJ (bndV (kBld [(.int .i64 (.ofNat (nat_lit 0))), (.int .i64 (.ofNat (nat_lit 0)))] [(0, 1), (1, 1)] [x13, x14]) fun x48 =>
  bndN (kAlloc [(.int .i64 (.ofNat (nat_lit 0))), (.int .i64 (.ofNat (nat_lit 0)))] []) h fun x15 h =>
  bndE (dSt h 2 [x15, x48]) h fun _ h =>
  bndV (qLd h (some 2) [x15]) fun x51 =>
  bndC (f151 [x11, x51] h) fun x52 h =>
  bndV (kExt 0 [x52]) fun x53 =>
  bndV (kExt 1 [x52]) fun x54 =>
  (f69_3 x1 x7 x8 x9 x11 x12 x13 x14 x15 x22 x23 x24 x30 x31 x53 h))
  fun j vs h => (f69_4 rc vs h))
  (some ⟨0, [x1, x7, x8, x9, x11, x12, x22, x23, x24, x30, x31], h⟩)
noncomputable def f69_6 (x1 : V) (x7 : V) (x8 : V) (x9 : V) (x11 : V) (x12 : V) (x22 : V) (x23 : V) (x24 : V) (x30 : V) (x31 : V) (x38 : V) (h : HT) : Option J := loopF (fun rc vs h => unc vs fun x1 vs =>
  unc vs fun x7 vs =>
  unc vs fun x8 vs =>
  unc vs fun x9 vs =>
  unc vs fun x11 vs =>
  unc vs fun x12 vs =>
  unc vs fun x13 vs =>
  unc vs fun x14 vs =>
  unc vs fun x22 vs =>
  unc vs fun x23 vs =>
  unc vs fun x24 vs =>
  unc vs fun x30 vs =>
  unc vs fun x31 vs =>
  (f69_5 rc x1 x7 x8 x9 x11 x12 x13 x14 x22 x23 x24 x30 x31 h)) 1000000 [x1, x7, x8, x9, x11, x12, x31, x38, x22, x23, x24, x30, x31] h
noncomputable def f69_7 (rc : List V → HT → Option J) (x1 : V) (x7 : V) (x8 : V) (x9 : V) (x11 : V) (x12 : V) (x22 : V) (x23 : V) (x24 : V) (x30 : V) (x31 : V) (x38 : V) (h : HT) : Option J := bndJ ((f69_6 x1 x7 x8 x9 x11 x12 x22 x23 x24 x30 x31 x38 h))
  fun j vs h => unc vs fun x1 vs =>
  unc vs fun x7 vs =>
  unc vs fun x8 vs =>
  unc vs fun x9 vs =>
  unc vs fun x11 vs =>
  unc vs fun x12 vs =>
  unc vs fun x22 vs =>
  unc vs fun x23 vs =>
  unc vs fun x24 vs =>
  unc vs fun x30 vs =>
  unc vs fun x31 vs =>
  bndV (kBin .add [x31, (.int .i64 (.ofNat (nat_lit 1)))]) fun x88 =>
  rc [x1, x7, x8, x9, x11, x12, x22, x23, x24, x30, x88] h
noncomputable def f69_8 (rc : List V → HT → Option J) (x1 : V) (x7 : V) (x8 : V) (vs : List V) (h : HT) : Option J := unc vs fun x9 vs =>
  unc vs fun x11 vs =>
  unc vs fun x12 vs =>
  unc vs fun x22 vs =>
  unc vs fun x23 vs =>
  unc vs fun x24 vs =>
  unc vs fun x30 vs =>
  unc vs fun x31 vs =>
  bndV (kBin .lss [x31, x30]) fun x32 =>
  tstv x32 (bndC (f150 [x11] h) fun x35 h =>
  bndV (kIxA 7 1 false [x35, x31]) fun x37 =>
  bndV (kBin .add [x37, (.int .i64 (.ofNat (nat_lit 1)))]) fun x38 =>
  (f69_7 rc x1 x7 x8 x9 x11 x12 x22 x23 x24 x30 x31 x38 h))
  (some ⟨0, [x1, x7, x8, x9, x22, x23, x24], h⟩)
noncomputable def f69_9 (rc : List V → HT → Option J) (x1 : V) (x7 : V) (x8 : V) (x9 : V) (x12 : V) (x22 : V) (x23 : V) (x24 : V) (x27 : V) (h : HT) : Option J := bndJ (loopF (fun rc vs h => unc vs fun x1 vs =>
  unc vs fun x7 vs =>
  unc vs fun x8 vs =>
  (f69_8 rc x1 x7 x8 vs h)) 1000000 [x1, x7, x8, x9, x27, x12, x22, x23, x24, x1, (.int .i64 (.ofNat (nat_lit 0)))] h)
  fun j vs h => unc vs fun x1 vs =>
  unc vs fun x7 vs =>
  unc vs fun x8 vs =>
  unc vs fun x9 vs =>
  unc vs fun x22 vs =>
  unc vs fun x23 vs =>
  unc vs fun x24 vs =>
  bndV (kBin .add [x24, (.int .i64 (.ofNat (nat_lit 1)))]) fun x89 =>
  rc [x1, x7, x8, x9, x22, x23, x89] h
noncomputable def f69_10 (rc : List V → HT → Option J) (x1 : V) (vs : List V) (h : HT) : Option J := unc vs fun x7 vs =>
  unc vs fun x8 vs =>
  unc vs fun x9 vs =>
  unc vs fun x22 vs =>
  unc vs fun x23 vs =>
  unc vs fun x24 vs =>
  bndV (kBin .lss [x24, x23]) fun x25 =>
  tstv x25 (bndV (kIaS 1 [x22, x24]) fun x26 =>
  bndV (qLd h none [x26]) fun x27 =>
  bndC (f149 [x27] h) fun x29 h =>
  bndN (kAlloc [(.int .i64 (.ofNat (nat_lit 0))), (.int .i64 (.ofNat (nat_lit 0))), (.int .i64 (.ofNat (nat_lit 0))), (.int .i64 (.ofNat (nat_lit 0))), (.int .i64 (.ofNat (nat_lit 0))), (.int .i64 (.ofNat (nat_lit 0))), (.int .i64 (.ofNat (nat_lit 0)))] []) h fun x12 h =>
  bndE (dSt h 7 [x12, x29]) h fun _ h =>
  (f69_9 rc x1 x7 x8 x9 x12 x22 x23 x24 x27 h))
  (some ⟨0, [x7, x8, x9], h⟩)
noncomputable def f69 (vs : List V) (h : HT) : Option J := unc vs fun x0 vs =>
  unc vs fun x1 vs =>
  bndN (kMkM []) h fun x20 h =>
  bndN (kMkM []) h fun x21 h =>
  bndV (kLenS [x0]) fun x23 =>
  bndJ (loopF (fun rc vs h => unc vs fun x1 vs =>
  (f69_10 rc x1 vs h)) 1000000 [x1, (.slice none 0 true 0), x20, x21, x0, x23, (.int .i64 (.ofNat (nat_lit 0)))] h)
  fun j vs h => unc vs fun x7 vs =>
  unc vs fun x8 vs =>
  unc vs fun x9 vs =>
  bndV (kLenM h.heap [x9]) fun x93 =>
  ret1 (.tuple [x7, x8, x93]) h
def a69 : List Ann := [.no, .loop [1, 7, 8, 9, 22, 23, 24] [((.exit 0), [7, 8, 9])], .no, .no, .no, .loop [1, 7, 8, 9, 11, 12, 22, 23, 24, 30, 31] [((.exit 2), [1, 7, 8, 9, 22, 23, 24])], .no, .no, .no, .loop [1, 7, 8, 9, 11, 12, 13, 14, 22, 23, 24, 30, 31] [((.exit 4), [1, 7, 8, 9, 11, 12, 22, 23, 24, 30, 31])], .no, .join [(.normal, [1, 7, 8, 9, 11, 12, 13, 14, 22, 23, 24, 30, 31])], .no, .join [(.normal, [1, 7, 8, 9, 11, 12, 13, 14, 22, 23, 24, 30, 31])], .join [(.normal, [1, 7, 8, 9, 11, 12, 13, 14, 22, 23, 24, 30, 31])]]
theorem e69 : f69 = evFun Tryz.prog 69 2 a69 t69 := by kernel_rfl
theorem o69 : FnOk Tryz.prog 69 f69 := .of hmO (show enters Tryz.prog 69 = true by kernel_rfl) e69 (.cons o149 (.cons o150 (.cons o151 (.nil))))

/- concord/audit.Of -/
noncomputable def l24 : List (Nat × (List V → HT → Option J)) := [(14, f14), (15, f15), (16, f16), (68, f68), (69, f69), (70, f70)]
noncomputable def t24 : Fns := tab l24
noncomputable def f24_0 (rc : List V → HT → Option J) (x2 : V) (x3 : V) (x4 : V) (x5 : V) (x7 : V) (x9 : V) (x34 : V) (x35 : V) (x36 : V) (x43 : V) (x44 : V) (x45 : V) (x75 : V) (h : HT) : Option J := bndJ (tstv x75 (bndV (kFa 3 [x7]) fun x76 =>
  bndV (qLd h none [x76]) fun x77 =>
  bndV (kBin .add [x77, (.int .i64 (.ofNat (nat_lit 1)))]) fun x78 =>
  bndV (kFa 3 [x7]) fun x79 =>
  bndE (dSt h 1 [x79, x78]) h fun _ h =>
  some ⟨0, [x2, x3, x4, x5, x7, x9, x34, x35, x36, x43, x44, x45], h⟩)
  (some ⟨0, [x2, x3, x4, x5, x7, x9, x34, x35, x36, x43, x44, x45], h⟩))
  fun j vs h => unc vs fun x2 vs =>
  unc vs fun x3 vs =>
  unc vs fun x4 vs =>
  unc vs fun x5 vs =>
  unc vs fun x7 vs =>
  unc vs fun x9 vs =>
  unc vs fun x34 vs =>
  unc vs fun x35 vs =>
  unc vs fun x36 vs =>
  unc vs fun x43 vs =>
  unc vs fun x44 vs =>
  unc vs fun x45 vs =>
  bndV (kBin .add [x45, (.int .i64 (.ofNat (nat_lit 1)))]) fun x80 =>
  rc [x2, x3, x4, x5, x7, x9, x34, x35, x36, x43, x44, x80] h
noncomputable def f24_1 (rc : List V → HT → Option J) (x2 : V) (x3 : V) (x4 : V) (x5 : V) (x7 : V) (x9 : V) (x11 : V) (x12 : V) (x13 : V) (x34 : V) (x35 : V) (x36 : V) (x43 : V) (x44 : V) (x45 : V) (x59 : V) (h : HT) : Option J := bndC (gsel x59 true (retV (kFa 12 [x12]) h) h) fun x61 h =>
  bndC (gsel x59 true (retV (kFa 1 [x61]) h) h) fun x62 h =>
  bndC (gsel x59 true (retV (qLd h (some 7) [x62]) h) h) fun x63 h =>
  bndC (gsel x59 true (retV (qLd h (some 2) [x11]) h) h) fun x64 h =>
  bndC (gsel x59 true (noF [x63, x64] h) h) fun x65 h =>
  bndC (gsel x59 true (retV (kUn .not [x65]) h) h) fun x66 h =>
  bndV (kPick [x59, x66, (.bool false)]) fun x67 =>
  bndC (gsel x67 true (retV (kFa 12 [x13]) h) h) fun x69 h =>
  bndC (gsel x67 true (retV (kFa 1 [x69]) h) h) fun x70 h =>
  bndC (gsel x67 true (retV (qLd h (some 7) [x70]) h) h) fun x71 h =>
  bndC (gsel x67 true (retV (qLd h (some 2) [x9]) h) h) fun x72 h =>
  bndC (gsel x67 true (noF [x71, x72] h) h) fun x73 h =>
  bndC (gsel x67 true (retV (kUn .not [x73]) h) h) fun x74 h =>
  bndV (kPick [x67, x74, (.bool false)]) fun x75 =>
  (f24_0 rc x2 x3 x4 x5 x7 x9 x34 x35 x36 x43 x44 x45 x75 h)
noncomputable def f24_2 (rc : List V → HT → Option J) (x2 : V) (x3 : V) (x4 : V) (x5 : V) (x7 : V) (x9 : V) (x11 : V) (x34 : V) (x35 : V) (x36 : V) (x43 : V) (x44 : V) (x45 : V) (x50 : V) (h : HT) : Option J := bndV (kLkp h.heap true [.i, .i] (.agg [(.int .i64 (.ofNat (nat_lit 0))), (.int .i64 (.ofNat (nat_lit 0))), (.int .i64 (.ofNat (nat_lit 0))), (.int .i64 (.ofNat (nat_lit 0))), (.int .i64 (.ofNat (nat_lit 0))), (.int .i64 (.ofNat (nat_lit 0))), (.int .i64 (.ofNat (nat_lit 0))), (.int .i64 (.ofNat (nat_lit 0))), (.str (sb [])), (.str (sb [])), (.str (sb [])), (.str (sb [])), (.int .i64 (.ofNat (nat_lit 0))), (.int .i64 (.ofNat (nat_lit 0))), (.int .i64 (.ofNat (nat_lit 0))), (.int .i64 (.ofNat (nat_lit 0))), (.int .i64 (.ofNat (nat_lit 0))), (.int .i64 (.ofNat (nat_lit 0))), (.int .i64 (.ofNat (nat_lit 0))), (.int .i64 (.ofNat (nat_lit 0))), (.bool false)]) false [x5, x50]) fun x51 =>
  bndV (qLd h (some 2) [x11]) fun x53 =>
  bndV (kLkp h.heap true [.i, .i] (.agg [(.int .i64 (.ofNat (nat_lit 0))), (.int .i64 (.ofNat (nat_lit 0))), (.int .i64 (.ofNat (nat_lit 0))), (.int .i64 (.ofNat (nat_lit 0))), (.int .i64 (.ofNat (nat_lit 0))), (.int .i64 (.ofNat (nat_lit 0))), (.int .i64 (.ofNat (nat_lit 0))), (.int .i64 (.ofNat (nat_lit 0))), (.str (sb [])), (.str (sb [])), (.str (sb [])), (.str (sb [])), (.int .i64 (.ofNat (nat_lit 0))), (.int .i64 (.ofNat (nat_lit 0))), (.int .i64 (.ofNat (nat_lit 0))), (.int .i64 (.ofNat (nat_lit 0))), (.int .i64 (.ofNat (nat_lit 0))), (.int .i64 (.ofNat (nat_lit 0))), (.int .i64 (.ofNat (nat_lit 0))), (.int .i64 (.ofNat (nat_lit 0))), (.bool false)]) false [x5, x53]) fun x54 =>
  bndN (kAlloc [(.int .i64 (.ofNat (nat_lit 0))), (.int .i64 (.ofNat (nat_lit 0))), (.int .i64 (.ofNat (nat_lit 0))), (.int .i64 (.ofNat (nat_lit 0))), (.int .i64 (.ofNat (nat_lit 0))), (.int .i64 (.ofNat (nat_lit 0))), (.int .i64 (.ofNat (nat_lit 0))), (.int .i64 (.ofNat (nat_lit 0))), (.str (sb [])), (.str (sb [])), (.str (sb [])), (.str (sb [])), (.int .i64 (.ofNat (nat_lit 0))), (.int .i64 (.ofNat (nat_lit 0))), (.int .i64 (.ofNat (nat_lit 0))), (.int .i64 (.ofNat (nat_lit 0))), (.int .i64 (.ofNat (nat_lit 0))), (.int .i64 (.ofNat (nat_lit 0))), (.int .i64 (.ofNat (nat_lit 0))), (.int .i64 (.ofNat (nat_lit 0))), (.bool false)] []) h fun x12 h =>
  bndN (kAlloc [(.int .i64 (.ofNat (nat_lit 0))), (.int .i64 (.ofNat (nat_lit 0))), (.int .i64 (.ofNat (nat_lit 0))), (.int .i64 (.ofNat (nat_lit 0))), (.int .i64 (.ofNat (nat_lit 0))), (.int .i64 (.ofNat (nat_lit 0))), (.int .i64 (.ofNat (nat_lit 0))), (.int .i64 (.ofNat (nat_lit 0))), (.str (sb [])), (.str (sb [])), (.str (sb [])), (.str (sb [])), (.int .i64 (.ofNat (nat_lit 0))), (.int .i64 (.ofNat (nat_lit 0))), (.int .i64 (.ofNat (nat_lit 0))), (.int .i64 (.ofNat (nat_lit 0))), (.int .i64 (.ofNat (nat_lit 0))), (.int .i64 (.ofNat (nat_lit 0))), (.int .i64 (.ofNat (nat_lit 0))), (.int .i64 (.ofNat (nat_lit 0))), (.bool false)] []) h fun x13 h =>
  bndE (dSt h 21 [x12, x51]) h fun _ h =>
  chk1 (sameE (kLkp h.heap true [.i, .i] (.agg [(.int .i64 (.ofNat (nat_lit 0))), (.int .i64 (.ofNat (nat_lit 0))), (.int .i64 (.ofNat (nat_lit 0))), (.int .i64 (.ofNat (nat_lit 0))), (.int .i64 (.ofNat (nat_lit 0))), (.int .i64 (.ofNat (nat_lit 0))), (.int .i64 (.ofNat (nat_lit 0))), (.int .i64 (.ofNat (nat_lit 0))), (.str (sb [])), (.str (sb [])), (.str (sb [])), (.str (sb [])), (.int .i64 (.ofNat (nat_lit 0))), (.int .i64 (.ofNat (nat_lit 0))), (.int .i64 (.ofNat (nat_lit 0))), (.int .i64 (.ofNat (nat_lit 0))), (.int .i64 (.ofNat (nat_lit 0))), (.int .i64 (.ofNat (nat_lit 0))), (.int .i64 (.ofNat (nat_lit 0))), (.int .i64 (.ofNat (nat_lit 0))), (.bool false)]) false [x5, x53]) x54) (chk1 (sameE (qLd h (some 2) [x11]) x53) (bndE (dSt h 21 [x13, x54]) h fun _ h =>
  bndV (kFa 5 [x12]) fun x55 =>
  bndV (qLd h (some 7) [x55]) fun x56 =>
  bndV (kFa 5 [x13]) fun x57 =>
  bndV (qLd h (some 7) [x57]) fun x58 =>
  bndC (noF [x56, x58] h) fun x59 h =>
  (f24_1 rc x2 x3 x4 x5 x7 x9 x11 x12 x13 x34 x35 x36 x43 x44 x45 x59 h)))
noncomputable def f24_3 (rc : List V → HT → Option J) (x2 : V) (x3 : V) (x4 : V) (x5 : V) (x7 : V) (x9 : V) (vs : List V) (h : HT) : Option J := unc vs fun x34 vs =>
  unc vs fun x35 vs =>
  unc vs fun x36 vs =>
  unc vs fun x43 vs =>
  unc vs fun x44 vs =>
  unc vs fun x45 vs =>
  bndV (kBin .lss [x45, x44]) fun x46 =>
  tstv x46 (bndV (kIaS 2 [x43, x45]) fun x47 =>
  bndV (qLd h (some 2) [x47]) fun x48 =>
  bndN (kAlloc [(.int .i64 (.ofNat (nat_lit 0))), (.int .i64 (.ofNat (nat_lit 0)))] []) h fun x11 h =>
  bndE (dSt h 2 [x11, x48]) h fun _ h =>
  bndV (qLd h (some 2) [x9]) fun x50 =>
  (f24_2 rc x2 x3 x4 x5 x7 x9 x11 x34 x35 x36 x43 x44 x45 x50 h))
  (some ⟨0, [x2, x3, x4, x5, x7, x34, x35, x36], h⟩)
noncomputable def f24_4 (rc : List V → HT → Option J) (x2 : V) (x3 : V) (x4 : V) (x5 : V) (x7 : V) (x9 : V) (x34 : V) (x35 : V) (x36 : V) (x43 : V) (x44 : V) (h : HT) : Option J := bndJ (loopF (fun rc vs h => unc vs fun x2 vs =>
  unc vs fun x3 vs =>
  unc vs fun x4 vs =>
  unc vs fun x5 vs =>
  unc vs fun x7 vs =>
  unc vs fun x9 vs =>
  (f24_3 rc x2 x3 x4 x5 x7 x9 vs h)) 1000000 [x2, x3, x4, x5, x7, x9, x34, x35, x36, x43, x44, (.int .i64 (.ofNat (nat_lit 0)))] h)
  fun j vs h => unc vs fun x2 vs =>
  unc vs fun x3 vs =>
  unc vs fun x4 vs =>
  unc vs fun x5 vs =>
  unc vs fun x7 vs =>
  unc vs fun x34 vs =>
  unc vs fun x35 vs =>
  unc vs fun x36 vs =>
  bndV (kBin .add [x36, (.int .i64 (.ofNat (nat_lit 1)))]) fun x81 =>
  rc [x2, x3, x4, x5, x7, x34, x35, x81] h
noncomputable def f24_5 (rc : List V → HT → Option J) (x2 : V) (x3 : V) (x4 : V) (vs : List V) (h : HT) : Option J := unc vs fun x5 vs =>
  unc vs fun x7 vs =>
  unc vs fun x34 vs =>
  unc vs fun x35 vs =>
  unc vs fun x36 vs =>
  bndV (kBin .lss [x36, x35]) fun x37 =>
  tstv x37 (bndV (kIaS 2 [x34, x36]) fun x39 =>
  bndV (qLd h (some 2) [x39]) fun x40 =>
  bndN (kAlloc [(.int .i64 (.ofNat (nat_lit 0))), (.int .i64 (.ofNat (nat_lit 0)))] []) h fun x9 h =>
  bndE (dSt h 2 [x9, x40]) h fun _ h =>
  bndV (kSlS 2 false true [x4, x36]) fun x43 =>
  bndV (kLenS [x43]) fun x44 =>
  (f24_4 rc x2 x3 x4 x5 x7 x9 x34 x35 x36 x43 x44 h))
  (some ⟨0, [x2, x3, x7], h⟩)
noncomputable def f24_6 (rc : List V → HT → Option J) (x2 : V) (x3 : V) (x7 : V) (x15 : V) (x82 : V) (x83 : V) (x84 : V) (x91 : V) (x92 : V) (x93 : V) (x109 : V) (h : HT) : Option J := bndJ (tstv x109 (bndV (kFa 4 [x7]) fun x110 =>
  bndV (qLd h none [x110]) fun x111 =>
  bndV (kBin .add [x111, (.int .i64 (.ofNat (nat_lit 1)))]) fun x112 =>
  bndV (kFa 4 [x7]) fun x113 =>
  bndE (dSt h 1 [x113, x112]) h fun _ h =>
  some ⟨0, [x2, x3, x7, x15, x82, x83, x84, x91, x92, x93], h⟩)
  (some ⟨0, [x2, x3, x7, x15, x82, x83, x84, x91, x92, x93], h⟩))
  fun j vs h => unc vs fun x2 vs =>
  unc vs fun x3 vs =>
  unc vs fun x7 vs =>
  unc vs fun x15 vs =>
  unc vs fun x82 vs =>
  unc vs fun x83 vs =>
  unc vs fun x84 vs =>
  unc vs fun x91 vs =>
  unc vs fun x92 vs =>
  unc vs fun x93 vs =>
  bndV (kBin .add [x93, (.int .i64 (.ofNat (nat_lit 1)))]) fun x114 =>
  rc [x2, x3, x7, x15, x82, x83, x84, x91, x92, x114] h
noncomputable def f24_7 (rc : List V → HT → Option J) (x2 : V) (x3 : V) (x7 : V) (x15 : V) (x82 : V) (x83 : V) (x84 : V) (x91 : V) (x92 : V) (x93 : V) (x94 : V) (h : HT) : Option J := tstv x94 (bndV (kIaS 1 [x91, x93]) fun x95 =>
  bndV (qLd h none [x95]) fun x96 =>
  bndC (f14 [x15] h) fun x98 h =>
  bndC (f14 [x96] h) fun x100 h =>
  bndV (kEqF false [.i, .i, .i, .i, .i, .i, .i] [x98, x100]) fun x101 =>
  bndC (gsel x101 true (retV (kMov [x15]) h) h) fun x103 h =>
  bndC (gsel x101 true (f16 [x103] h) h) fun x104 h =>
  bndC (gsel x101 true (retV (kMov [x96]) h) h) fun x105 h =>
  bndC (gsel x101 true (f16 [x105] h) h) fun x106 h =>
  bndC (gsel x101 true (f15 [x104, x106] h) h) fun x107 h =>
  bndC (gsel x101 true (retV (kUn .not [x107]) h) h) fun x108 h =>
  bndV (kPick [x101, x108, (.bool false)]) fun x109 =>
  (f24_6 rc x2 x3 x7 x15 x82 x83 x84 x91 x92 x93 x109 h))
  (some ⟨0, [x2, x3, x7, x82, x83, x84], h⟩)
noncomputable def f24_8 (rc : List V → HT → Option J) (x2 : V) (x3 : V) (x7 : V) (x82 : V) (x83 : V) (x84 : V) (x88 : V) (x91 : V) (x92 : V) (h : HT) : Option J := bndJ (loopF (fun rc vs h => unc vs fun x2 vs =>
  unc vs fun x3 vs =>
  unc vs fun x7 vs =>
  unc vs fun x15 vs =>
  unc vs fun x82 vs =>
  unc vs fun x83 vs =>
  unc vs fun x84 vs =>
  unc vs fun x91 vs =>
  unc vs fun x92 vs =>
  unc vs fun x93 vs =>
  bndV (kBin .lss [x93, x92]) fun x94 =>
  (f24_7 rc x2 x3 x7 x15 x82 x83 x84 x91 x92 x93 x94 h)) 1000000 [x2, x3, x7, x88, x82, x83, x84, x91, x92, (.int .i64 (.ofNat (nat_lit 0)))] h)
  fun j vs h => unc vs fun x2 vs =>
  unc vs fun x3 vs =>
  unc vs fun x7 vs =>
  unc vs fun x82 vs =>
  unc vs fun x83 vs =>
  unc vs fun x84 vs =>
  bndV (kBin .add [x84, (.int .i64 (.ofNat (nat_lit 1)))]) fun x115 =>
  rc [x2, x3, x7, x82, x83, x115] h
noncomputable def f24_9 (x2 : V) (x3 : V) (x7 : V) (x83 : V) (h : HT) : Option J := loopF (fun rc vs h => unc vs fun x2 vs =>
  unc vs fun x3 vs =>
  unc vs fun x7 vs =>
  unc vs fun x82 vs =>
  unc vs fun x83 vs =>
  unc vs fun x84 vs =>
  bndV (kBin .lss [x84, x83]) fun x85 =>
  tstv x85 (bndV (kIaS 1 [x82, x84]) fun x87 =>
  bndV (qLd h none [x87]) fun x88 =>
  bndV (kSlS 1 false true [x3, x84]) fun x91 =>
  bndV (kLenS [x91]) fun x92 =>
  (f24_8 rc x2 x3 x7 x82 x83 x84 x88 x91 x92 h))
  (some ⟨0, [x2, x7], h⟩)) 1000000 [x2, x3, x7, x3, x83, (.int .i64 (.ofNat (nat_lit 0)))] h
noncomputable def f24_10 (x2 : V) (x7 : V) (x19 : V) (x25 : V) (x26 : V) (x35 : V) (h : HT) : Option J := bndJ (loopF (fun rc vs h => unc vs fun x2 vs =>
  unc vs fun x3 vs =>
  unc vs fun x4 vs =>
  (f24_5 rc x2 x3 x4 vs h)) 1000000 [x2, x19, x25, x26, x7, x25, x35, (.int .i64 (.ofNat (nat_lit 0)))] h)
  fun j vs h => unc vs fun x2 vs =>
  unc vs fun x3 vs =>
  unc vs fun x7 vs =>
  bndV (kLenS [x3]) fun x83 =>
  bndJ ((f24_9 x2 x3 x7 x83 h))
  fun j vs h => unc vs fun x2 vs =>
  unc vs fun x7 vs =>
  bndV (qLd h (some 5) [x7]) fun x116 =>
  bndE (dSt h 5 [x2, x116]) h fun _ h =>
  bndV (qLd h (some 5) [x2]) fun x900000 =>
  ret1 x900000 h
noncomputable def f24 (vs : List V) (h : HT) : Option J := unc vs fun x0 vs =>
  bndN (kAlloc [(.int .i64 (.ofNat (nat_lit 0))), (.int .i64 (.ofNat (nat_lit 0))), (.int .i64 (.ofNat (nat_lit 0))), (.int .i64 (.ofNat (nat_lit 0))), (.int .i64 (.ofNat (nat_lit 0)))] []) h fun x2 h =>
  bndC (f68 [x0] h) fun x19 h =>
  bndC (f70 [x0] h) fun x23 h =>
  bndC (f69 [x19, x23] h) fun x24 h =>
  bndV (kExt 0 [x24]) fun x25 =>
  bndV (kExt 1 [x24]) fun x26 =>
  bndV (kExt 2 [x24]) fun x27 =>
  bndV (kLenS [x19]) fun x29 =>
  bndV (kLenS [x25]) fun x31 =>
  bndV (kBld [(.int .i64 (.ofNat (nat_lit 0))), (.int .i64 (.ofNat (nat_lit 0))), (.int .i64 (.ofNat (nat_lit 0))), (.int .i64 (.ofNat (nat_lit 0))), (.int .i64 (.ofNat (nat_lit 0)))] [(0, 1), (1, 1), (2, 1)] [x29, x31, x27]) fun x33 =>
  bndN (kAlloc [(.int .i64 (.ofNat (nat_lit 0))), (.int .i64 (.ofNat (nat_lit 0))), (.int .i64 (.ofNat (nat_lit 0))), (.int .i64 (.ofNat (nat_lit 0))), (.int .i64 (.ofNat (nat_lit 0)))] []) h fun x7 h =>
  bndE (dSt h 5 [x7, x33]) h fun _ h =>
  bndV (kLenS [x25]) fun x35 =>
  (f24_10 x2 x7 x19 x25 x26 x35 h)
def a24 : List Ann := [.no, .loop [2, 3, 4, 5, 7, 34, 35, 36] [((.exit 0), [2, 3, 7])], .no, .no, .no, .loop [2, 3, 4, 5, 7, 9, 34, 35, 36, 43, 44, 45] [((.exit 2), [2, 3, 4, 5, 7, 34, 35, 36])], .no, .no, .join [(.normal, [2, 3, 4, 5, 7, 9, 34, 35, 36, 43, 44, 45])], .no, .loop [2, 3, 7, 82, 83, 84] [((.exit 4), [2, 7])], .no, .no, .no, .loop [2, 3, 7, 15, 82, 83, 84, 91, 92, 93] [((.exit 6), [2, 3, 7, 82, 83, 84])], .no, .no, .join [(.normal, [2, 3, 7, 15, 82, 83, 84, 91, 92, 93])]]
theorem e24 : f24 = evFun Tryz.prog 24 1 a24 t24 := by kernel_rfl
theorem o24 : FnOk Tryz.prog 24 f24 := .of hmO (show enters Tryz.prog 24 = true by kernel_rfl) e24 (.cons o14 (.cons o15 (.cons o16 (.cons o68 (.cons o69 (.cons o70 (.nil)))))))

/- concord/audit.Fine -/
noncomputable def l25 : List (Nat × (List V → HT → Option J)) := []
noncomputable def t25 : Fns := tab l25

noncomputable def f25 (vs : List V) (h : HT) : Option J := unc vs fun x0 vs =>
  bndN (kBox [x0]) h fun x1 h =>
  bndV (kFa 2 [x1]) fun x3 =>
  bndV (qLd h none [x3]) fun x4 =>
  bndV (kBin .eql [x4, (.int .i64 (.ofNat (nat_lit 0)))]) fun x5 =>
  bndC (gsel x5 true (retV (kFa 3 [x1]) h) h) fun x7 h =>
  bndC (gsel x5 true (retV (qLd h none [x7]) h) h) fun x8 h =>
  bndC (gsel x5 true (retV (kBin .eql [x8, (.int .i64 (.ofNat (nat_lit 0)))]) h) h) fun x9 h =>
  bndV (kPick [x5, x9, (.bool false)]) fun x10 =>
  bndC (gsel x10 true (retV (kFa 4 [x1]) h) h) fun x12 h =>
  bndC (gsel x10 true (retV (qLd h none [x12]) h) h) fun x13 h =>
  bndC (gsel x10 true (retV (kBin .eql [x13, (.int .i64 (.ofNat (nat_lit 0)))]) h) h) fun x14 h =>
  bndV (kPick [x10, x14, (.bool false)]) fun x15 =>
  ret1 x15 h
def a25 : List Ann := []
theorem e25 : f25 = evFun Tryz.prog 25 1 a25 t25 := by kernel_rfl
theorem o25 : FnOk Tryz.prog 25 f25 := .of hmO (show enters Tryz.prog 25 = true by kernel_rfl) e25 (.nil)

/- concord/concordlaw28.AuditRuns -/
noncomputable def l6 : List (Nat × (List V → HT → Option J)) := [(17, f17), (18, f18), (24, f24), (25, f25)]
noncomputable def t6 : Fns := tab l6
noncomputable def f6_0 (x3 : V) (x5 : V) (h : HT) : Option J := bndV (qLd h (some 5) [x3]) fun x33 =>
  bndV (kBld [(.int .i64 (.ofNat (nat_lit 0))), (.int .i64 (.ofNat (nat_lit 0))), (.int .i64 (.ofNat (nat_lit 0))), (.int .i64 (.ofNat (nat_lit 0))), (.int .i64 (.ofNat (nat_lit 0)))] [(0, 1)] [(.int .i64 (.ofNat (nat_lit 3)))]) fun x34 =>
  bndV (kEqF false [.i, .i, .i, .i, .i] [x33, x34]) fun x35 =>
  bndC (gsel x35 true (retV (qLd h (some 5) [x5]) h) h) fun x37 h =>
  bndC (gsel x35 true (retV (kBld [(.int .i64 (.ofNat (nat_lit 0))), (.int .i64 (.ofNat (nat_lit 0))), (.int .i64 (.ofNat (nat_lit 0))), (.int .i64 (.ofNat (nat_lit 0))), (.int .i64 (.ofNat (nat_lit 0)))] [(0, 1), (1, 1)] [(.int .i64 (.ofNat (nat_lit 3))), (.int .i64 (.ofNat (nat_lit 1)))]) h) h) fun x38 h =>
  bndC (gsel x35 true (retV (kEqF false [.i, .i, .i, .i, .i] [x37, x38]) h) h) fun x39 h =>
  bndV (kPick [x35, x39, (.bool false)]) fun x40 =>
  bndC (gsel x40 true (retV (qLd h (some 5) [x5]) h) h) fun x42 h =>
  bndC (gsel x40 true (f25 [x42] h) h) fun x43 h =>
  bndV (kPick [x40, x43, (.bool false)]) fun x44 =>
  bndC (gsel x44 true (retV (kBld [(.int .i64 (.ofNat (nat_lit 0))), (.int .i64 (.ofNat (nat_lit 0))), (.int .i64 (.ofNat (nat_lit 0))), (.int .i64 (.ofNat (nat_lit 0))), (.int .i64 (.ofNat (nat_lit 0)))] [(3, 1)] [(.int .i64 (.ofNat (nat_lit 1)))]) h) h) fun x46 h =>
  bndC (gsel x44 true (f25 [x46] h) h) fun x47 h =>
  bndC (gsel x44 true (retV (kUn .not [x47]) h) h) fun x48 h =>
  bndV (kPick [x44, x48, (.bool false)]) fun x49 =>
  ret1 x49 h
noncomputable def f6_1 (x3 : V) (x8 : V) (h : HT) : Option J := bndJ (loopF (fun rc vs h => unc vs fun x1 vs =>
  unc vs fun x3 vs =>
  unc vs fun x4 vs =>
  bndV (kBin .lss [x4, (.int .i64 (.ofNat (nat_lit 100)))]) fun x23 =>
  bndC (gsel x23 true (retV (kMov [x1]) h) h) fun x25 h =>
  bndC (gsel x23 true (retV (kBld [(.int .i64 (.ofNat (nat_lit 0))), (.int .i64 (.ofNat (nat_lit 0))), (.int .i64 (.ofNat (nat_lit 0))), (.int .i64 (.ofNat (nat_lit 0))), (.int .i64 (.ofNat (nat_lit 0))), (.int .i64 (.ofNat (nat_lit 0))), (.int .i64 (.ofNat (nat_lit 0))), (.str (sb [])), (.str (sb [])), (.str (sb [])), (.str (sb [])), (.slice none 0 true 0)] [(0, 1)] [(.int .i64 (.ofNat (nat_lit 2)))]) h) h) fun x26 h =>
  bndC (gsel x23 true (f18 [x25, x26] h) h) fun x27 h =>
  bndV (kPick [x23, x27, (.bool false)]) fun x28 =>
  tstv x28 (bndV (kBin .add [x4, (.int .i64 (.ofNat (nat_lit 1)))]) fun x30 =>
  rc [x1, x3, x30] h)
  (some ⟨0, [x1, x3], h⟩)) 1000000 [x8, x3, (.int .i64 (.ofNat (nat_lit 0)))] h)
  fun j vs h => unc vs fun x1 vs =>
  unc vs fun x3 vs =>
  bndC (f24 [x1] h) fun x32 h =>
  bndN (kAlloc [(.int .i64 (.ofNat (nat_lit 0))), (.int .i64 (.ofNat (nat_lit 0))), (.int .i64 (.ofNat (nat_lit 0))), (.int .i64 (.ofNat (nat_lit 0))), (.int .i64 (.ofNat (nat_lit 0)))] []) h fun x5 h =>
  bndE (dSt h 5 [x5, x32]) h fun _ h =>
  (f6_0 x3 x5 h)
noncomputable def f6_2 (x7 : V) (h : HT) : Option J := bndV (kExt 0 [x7]) fun x8 =>
  bndV (kExt 1 [x7]) fun x9 =>
  bndV (kEqN false [x8, (.ptr none)]) fun x11 =>
  bndC (gsel x11 false (retV (kMov [x9]) h) h) fun x13 h =>
  bndC (gsel x11 false (retV (kBin .neq [x13, (.int .i64 (.ofNat (nat_lit 0)))]) h) h) fun x14 h =>
  bndV (kPick [x11, (.bool true), x14]) fun x15 =>
  tstv x15 (ret1 (.bool false) h)
  (bndC (f24 [x8] h) fun x17 h =>
  bndN (kAlloc [(.int .i64 (.ofNat (nat_lit 0))), (.int .i64 (.ofNat (nat_lit 0))), (.int .i64 (.ofNat (nat_lit 0))), (.int .i64 (.ofNat (nat_lit 0))), (.int .i64 (.ofNat (nat_lit 0)))] []) h fun x3 h =>
  bndE (dSt h 5 [x3, x17]) h fun _ h =>
  bndV (kBld [(.int .i64 (.ofNat (nat_lit 0))), (.int .i64 (.ofNat (nat_lit 0))), (.int .i64 (.ofNat (nat_lit 0))), (.str (sb [])), (.str (sb [])), (.str (sb [])), (.str (sb []))] [(0, 1), (3, 1)] [(.int .i64 (.ofNat (nat_lit 2))), (.str (sb [97]))]) fun x19 =>
  bndV (kBld [(.int .i64 (.ofNat (nat_lit 0))), (.int .i64 (.ofNat (nat_lit 0))), (.int .i64 (.ofNat (nat_lit 0))), (.int .i64 (.ofNat (nat_lit 0))), (.int .i64 (.ofNat (nat_lit 0))), (.int .i64 (.ofNat (nat_lit 0))), (.int .i64 (.ofNat (nat_lit 0))), (.str (sb [])), (.str (sb [])), (.str (sb [])), (.str (sb [])), (.slice none 0 true 0)] [(0, 1), (3, 1), (4, 7)] [(.int .i64 (.ofNat (nat_lit 1))), (.int .i64 (.ofNat (nat_lit 1))), x19]) fun x20 =>
  bndC (f18 [x8, x20] h) fun x21 h =>
  (f6_1 x3 x8 h))
noncomputable def f6 (vs : List V) (h : HT) : Option J := bndC (f17 [(.int .i64 (.ofNat (nat_lit 3)))] h) fun x7 h =>
  (f6_2 x7 h)
def a6 : List Ann := [.no, .no, .loop [1, 3, 4] [((.exit 0), [1, 3])], .no, .no]
theorem e6 : f6 = evFun Tryz.prog 6 0 a6 t6 := by kernel_rfl
theorem o6 : FnOk Tryz.prog 6 f6 := .of hmO (show enters Tryz.prog 6 = true by kernel_rfl) e6 (.cons o17 (.cons o18 (.cons o24 (.cons o25 (.nil)))))

/- (*concord/cluster.Cluster).Run -/
noncomputable def l21 : List (Nat × (List V → HT → Option J)) := [(18, f18)]
noncomputable def t21 : Fns := tab l21
noncomputable def f21_0 (rc : List V → HT → Option J) (x0 : V) (x5 : V) (x7 : V) (x8 : V) (x9 : V) (x10 : V) (x13 : V) (h : HT) : Option J := bndE (dSt h 12 [x7, x13]) h fun _ h =>
  bndV (qLd h (some 12) [x7]) fun x15 =>
  bndC (f18 [x0, x15] h) fun x16 h =>
  bndJ (tstv x16 (bndV (kBin .add [x5, (.int .i64 (.ofNat (nat_lit 1)))]) fun x18 =>
  some ⟨0, [x0, x18, x8, x9, x10], h⟩)
  (some ⟨0, [x0, x5, x8, x9, x10], h⟩))
  fun j vs h => unc vs fun x0 vs =>
  unc vs fun x5 vs =>
  unc vs fun x8 vs =>
  unc vs fun x9 vs =>
  unc vs fun x10 vs =>
  bndV (kBin .add [x10, (.int .i64 (.ofNat (nat_lit 1)))]) fun x19 =>
  rc [x0, x5, x8, x9, x19] h
noncomputable def f21_1 (x0 : V) (x1 : V) (x9 : V) (h : HT) : Option J := bndJ (loopF (fun rc vs h => unc vs fun x0 vs =>
  unc vs fun x5 vs =>
  unc vs fun x8 vs =>
  unc vs fun x9 vs =>
  unc vs fun x10 vs =>
  bndV (kBin .lss [x10, x9]) fun x11 =>
  tstv x11 (bndV (kIaS 12 [x8, x10]) fun x12 =>
  bndV (qLd h (some 12) [x12]) fun x13 =>
  bndN (kAlloc [(.int .i64 (.ofNat (nat_lit 0))), (.int .i64 (.ofNat (nat_lit 0))), (.int .i64 (.ofNat (nat_lit 0))), (.int .i64 (.ofNat (nat_lit 0))), (.int .i64 (.ofNat (nat_lit 0))), (.int .i64 (.ofNat (nat_lit 0))), (.int .i64 (.ofNat (nat_lit 0))), (.str (sb [])), (.str (sb [])), (.str (sb [])), (.str (sb [])), (.slice none 0 true 0)] []) h fun x7 h =>
  (f21_0 rc x0 x5 x7 x8 x9 x10 x13 h))
  (some ⟨0, [x5], h⟩)) 1000000 [x0, (.int .i64 (.ofNat (nat_lit 0))), x1, x9, (.int .i64 (.ofNat (nat_lit 0)))] h)
  fun j vs h => unc vs fun x5 vs =>
  ret1 x5 h
noncomputable def f21 (vs : List V) (h : HT) : Option J := unc vs fun x0 vs =>
  unc vs fun x1 vs =>
  bndV (kLenS [x1]) fun x9 =>
  (f21_1 x0 x1 x9 h)
def a21 : List Ann := [.no, .loop [0, 5, 8, 9, 10] [((.exit 0), [5])], .no, .no, .join [(.normal, [0, 5, 8, 9, 10])]]
theorem e21 : f21 = evFun Tryz.prog 21 2 a21 t21 := by kernel_rfl
theorem o21 : FnOk Tryz.prog 21 f21 := .of hmO (show enters Tryz.prog 21 = true by kernel_rfl) e21 (.cons o18 (.nil))

/- (*concord/node.Node).Bad -/
noncomputable def l148 : List (Nat × (List V → HT → Option J)) := []
noncomputable def t148 : Fns := tab l148

noncomputable def f148 (vs : List V) (h : HT) : Option J := unc vs fun x0 vs =>
  bndV (kNilc [x0]) fun x4 =>
  bndV (kFa 74 [x4]) fun x5 =>
  bndV (qLd h none [x5]) fun x6 =>
  ret1 x6 h
def a148 : List Ann := []
theorem e148 : f148 = evFun Tryz.prog 148 1 a148 t148 := by kernel_rfl
theorem o148 : FnOk Tryz.prog 148 f148 := .of hmO (show enters Tryz.prog 148 = true by kernel_rfl) e148 (.nil)

/- concord/calm.Start -/
noncomputable def l66 : List (Nat × (List V → HT → Option J)) := [(18, f18), (58, f58), (70, f70), (148, f148)]
noncomputable def t66 : Fns := tab l66
noncomputable def f66_0 (rc : List V → HT → Option J) (x0 : V) (x5 : V) (x6 : V) (x17 : V) (h : HT) : Option J := bndJ (tstv x17 (bndV (kBld [(.int .i64 (.ofNat (nat_lit 0))), (.int .i64 (.ofNat (nat_lit 0))), (.int .i64 (.ofNat (nat_lit 0))), (.int .i64 (.ofNat (nat_lit 0))), (.int .i64 (.ofNat (nat_lit 0))), (.int .i64 (.ofNat (nat_lit 0))), (.int .i64 (.ofNat (nat_lit 0))), (.str (sb [])), (.str (sb [])), (.str (sb [])), (.str (sb [])), (.slice none 0 true 0)] [(0, 1), (1, 1)] [(.int .i64 (.ofNat (nat_lit 8))), x6]) fun x20 =>
  bndC (f18 [x0, x20] h) fun x21 h =>
  some ⟨0, [x0, x6, x5, x6], h⟩)
  (some ⟨0, [x0, x6, x5, x6], h⟩))
  fun j vs h => unc vs fun x0 vs =>
  unc vs fun x2 vs =>
  unc vs fun x5 vs =>
  unc vs fun x6 vs =>
  bndV (kBld [(.int .i64 (.ofNat (nat_lit 0))), (.int .i64 (.ofNat (nat_lit 0))), (.int .i64 (.ofNat (nat_lit 0))), (.int .i64 (.ofNat (nat_lit 0))), (.int .i64 (.ofNat (nat_lit 0))), (.int .i64 (.ofNat (nat_lit 0))), (.int .i64 (.ofNat (nat_lit 0))), (.str (sb [])), (.str (sb [])), (.str (sb [])), (.str (sb [])), (.slice none 0 true 0)] [(0, 1), (1, 1), (2, 1)] [(.int .i64 (.ofNat (nat_lit 7))), x2, (.int .i64 (.negSucc (nat_lit 0)))]) fun x24 =>
  bndC (f18 [x0, x24] h) fun x25 h =>
  bndV (kBld [(.int .i64 (.ofNat (nat_lit 0))), (.int .i64 (.ofNat (nat_lit 0))), (.int .i64 (.ofNat (nat_lit 0))), (.int .i64 (.ofNat (nat_lit 0))), (.int .i64 (.ofNat (nat_lit 0))), (.int .i64 (.ofNat (nat_lit 0))), (.int .i64 (.ofNat (nat_lit 0))), (.str (sb [])), (.str (sb [])), (.str (sb [])), (.str (sb [])), (.slice none 0 true 0)] [(0, 1), (1, 1)] [(.int .i64 (.ofNat (nat_lit 9))), x2]) fun x28 =>
  bndC (f18 [x0, x28] h) fun x29 h =>
  bndV (kBin .add [x6, (.int .i64 (.ofNat (nat_lit 1)))]) fun x30 =>
  rc [x0, x5, x30] h
noncomputable def f66_1 (x0 : V) (x5 : V) (h : HT) : Option J := bndJ (loopF (fun rc vs h => unc vs fun x0 vs =>
  unc vs fun x5 vs =>
  unc vs fun x6 vs =>
  bndV (kBin .lss [x6, x5]) fun x7 =>
  tstv x7 (bndC (f58 [x0, x6] h) fun x11 h =>
  bndV (kEqN true [x11, (.ptr none)]) fun x13 =>
  bndC (gsel x13 true (retV (kMov [x11]) h) h) fun x15 h =>
  bndC (gsel x13 true (f148 [x15] h) h) fun x16 h =>
  bndV (kPick [x13, x16, (.bool false)]) fun x17 =>
  (f66_0 rc x0 x5 x6 x17 h))
  (some ⟨0, [], h⟩)) 1000000 [x0, x5, (.int .i64 (.ofNat (nat_lit 0)))] h)
  fun j vs h => ret1 (.tuple []) h
noncomputable def f66 (vs : List V) (h : HT) : Option J := unc vs fun x0 vs =>
  bndC (f70 [x0] h) fun x5 h =>
  (f66_1 x0 x5 h)
def a66 : List Ann := [.no, .loop [0, 5, 6] [((.exit 0), [])], .no, .no, .join [(.normal, [0, 2, 5, 6])]]
theorem e66 : f66 = evFun Tryz.prog 66 1 a66 t66 := by kernel_rfl
theorem o66 : FnOk Tryz.prog 66 f66 := .of hmO (show enters Tryz.prog 66 = true by kernel_rfl) e66 (.cons o18 (.cons o58 (.cons o70 (.cons o148 (.nil)))))

/- concord/calm.Round -/
noncomputable def l67 : List (Nat × (List V → HT → Option J)) := [(18, f18), (70, f70)]
noncomputable def t67 : Fns := tab l67
noncomputable def f67_0 (x0 : V) (h : HT) : Option J := bndJ (loopF (fun rc vs h => unc vs fun x0 vs =>
  unc vs fun x14 vs =>
  bndV (kBin .lss [x14, (.int .i64 (.ofNat (nat_lit 20000)))]) fun x15 =>
  tstv x15 (bndV (kBld [(.int .i64 (.ofNat (nat_lit 0))), (.int .i64 (.ofNat (nat_lit 0))), (.int .i64 (.ofNat (nat_lit 0))), (.int .i64 (.ofNat (nat_lit 0))), (.int .i64 (.ofNat (nat_lit 0))), (.int .i64 (.ofNat (nat_lit 0))), (.int .i64 (.ofNat (nat_lit 0))), (.str (sb [])), (.str (sb [])), (.str (sb [])), (.str (sb [])), (.slice none 0 true 0)] [(0, 1)] [(.int .i64 (.ofNat (nat_lit 2)))]) fun x17 =>
  bndC (f18 [x0, x17] h) fun x18 h =>
  bndV (kUn .not [x18]) fun x19 =>
  tstv x19 (some ⟨0, [x0], h⟩)
  (bndV (kBin .add [x14, (.int .i64 (.ofNat (nat_lit 1)))]) fun x20 =>
  rc [x0, x20] h))
  (some ⟨0, [x0], h⟩)) 1000000 [x0, (.int .i64 (.ofNat (nat_lit 0)))] h)
  fun j vs h => unc vs fun x0 vs =>
  bndJ (loopF (fun rc vs h => unc vs fun x0 vs =>
  unc vs fun x3 vs =>
  bndV (kBin .leq [x3, (.int .i64 (.ofNat (nat_lit 8)))]) fun x22 =>
  tstv x22 (bndV (kBld [(.int .i64 (.ofNat (nat_lit 0))), (.int .i64 (.ofNat (nat_lit 0))), (.int .i64 (.ofNat (nat_lit 0))), (.int .i64 (.ofNat (nat_lit 0))), (.int .i64 (.ofNat (nat_lit 0))), (.int .i64 (.ofNat (nat_lit 0))), (.int .i64 (.ofNat (nat_lit 0))), (.str (sb [])), (.str (sb [])), (.str (sb [])), (.str (sb [])), (.slice none 0 true 0)] [(0, 1), (1, 1)] [(.int .i64 (.ofNat (nat_lit 6))), x3]) fun x27 =>
  bndC (f18 [x0, x27] h) fun x28 h =>
  bndV (kBin .add [x3, (.int .i64 (.ofNat (nat_lit 1)))]) fun x24 =>
  rc [x0, x24] h)
  (some ⟨0, [], h⟩)) 1000000 [x0, (.int .i64 (.ofNat (nat_lit 1)))] h)
  fun j vs h => ret1 (.tuple []) h
noncomputable def f67_1 (x0 : V) (h : HT) : Option J := bndC (f70 [x0] h) fun x5 h =>
  bndJ (loopF (fun rc vs h => unc vs fun x0 vs =>
  unc vs fun x5 vs =>
  unc vs fun x6 vs =>
  bndV (kBin .lss [x6, x5]) fun x7 =>
  tstv x7 (bndV (kBld [(.int .i64 (.ofNat (nat_lit 0))), (.int .i64 (.ofNat (nat_lit 0))), (.int .i64 (.ofNat (nat_lit 0))), (.int .i64 (.ofNat (nat_lit 0))), (.int .i64 (.ofNat (nat_lit 0))), (.int .i64 (.ofNat (nat_lit 0))), (.int .i64 (.ofNat (nat_lit 0))), (.str (sb [])), (.str (sb [])), (.str (sb [])), (.str (sb [])), (.slice none 0 true 0)] [(0, 1), (1, 1)] [(.int .i64 (.ofNat (nat_lit 5))), x6]) fun x11 =>
  bndC (f18 [x0, x11] h) fun x12 h =>
  bndV (kBin .add [x6, (.int .i64 (.ofNat (nat_lit 1)))]) fun x13 =>
  rc [x0, x5, x13] h)
  (some ⟨0, [x0], h⟩)) 1000000 [x0, x5, (.int .i64 (.ofNat (nat_lit 0)))] h)
  fun j vs h => unc vs fun x0 vs =>
  (f67_0 x0 h)
noncomputable def f67 (vs : List V) (h : HT) : Option J := unc vs fun x0 vs =>
  (f67_1 x0 h)
def a67 : List Ann := [.no, .loop [0, 5, 6] [((.exit 0), [0])], .no, .no, .no, .loop [0, 14] [((.exit 2), [0])], .no, .no, .no, .no, .loop [0, 3] [((.exit 4), [])], .no, .no]
theorem e67 : f67 = evFun Tryz.prog 67 1 a67 t67 := by kernel_rfl
theorem o67 : FnOk Tryz.prog 67 f67 := .of hmO (show enters Tryz.prog 67 = true by kernel_rfl) e67 (.cons o18 (.cons o70 (.nil)))

/- concord/calm.Settle -/
noncomputable def l22 : List (Nat × (List V → HT → Option J)) := [(66, f66), (67, f67)]
noncomputable def t22 : Fns := tab l22
noncomputable def f22_0 (x0 : V) (vs : List V) (h : HT) : Option J := unc vs fun x1 vs =>
  bndC (f66 [x0] h) fun x5 h =>
  bndV (kMinI [x1, (.int .i64 (.ofNat (nat_lit 400)))]) fun x7 =>
  bndJ (loopF (fun rc vs h => unc vs fun x0 vs =>
  unc vs fun x7 vs =>
  unc vs fun x8 vs =>
  bndV (kBin .lss [x8, x7]) fun x9 =>
  tstv x9 (bndC (f67 [x0] h) fun x11 h =>
  bndV (kBin .add [x8, (.int .i64 (.ofNat (nat_lit 1)))]) fun x12 =>
  rc [x0, x7, x12] h)
  (some ⟨0, [], h⟩)) 1000000 [x0, x7, (.int .i64 (.ofNat (nat_lit 0)))] h)
  fun j vs h => ret1 (.tuple []) h
noncomputable def f22 (vs : List V) (h : HT) : Option J := unc vs fun x0 vs =>
  (f22_0 x0 vs h)
def a22 : List Ann := [.no, .loop [0, 7, 8] [((.exit 0), [])], .no, .no]
theorem e22 : f22 = evFun Tryz.prog 22 2 a22 t22 := by kernel_rfl
theorem o22 : FnOk Tryz.prog 22 f22 := .of hmO (show enters Tryz.prog 22 = true by kernel_rfl) e22 (.cons o66 (.cons o67 (.nil)))

/- concord/calm.Waiting -/
noncomputable def l23 : List (Nat × (List V → HT → Option J)) := [(20, f20)]
noncomputable def t23 : Fns := tab l23
noncomputable def f23_0 (rc : List V → HT → Option J) (x0 : V) (x3 : V) (vs : List V) (h : HT) : Option J := unc vs fun x4 vs =>
  bndV (kBin .leq [x4, (.int .i64 (.ofNat (nat_lit 8)))]) fun x6 =>
  tstv x6 (bndC (f20 [x0, x4] h) fun x11 h =>
  bndJ (tstv x11 (bndV (kBin .add [x3, (.int .i64 (.ofNat (nat_lit 1)))]) fun x13 =>
  some ⟨0, [x0, x13, x4], h⟩)
  (some ⟨0, [x0, x3, x4], h⟩))
  fun j vs h => unc vs fun x0 vs =>
  unc vs fun x3 vs =>
  unc vs fun x4 vs =>
  bndV (kBin .add [x4, (.int .i64 (.ofNat (nat_lit 1)))]) fun x8 =>
  rc [x0, x3, x8] h)
  (some ⟨0, [x3], h⟩)
noncomputable def f23 (vs : List V) (h : HT) : Option J := unc vs fun x0 vs =>
  bndJ (loopF (fun rc vs h => unc vs fun x0 vs =>
  unc vs fun x3 vs =>
  (f23_0 rc x0 x3 vs h)) 1000000 [x0, (.int .i64 (.ofNat (nat_lit 0))), (.int .i64 (.ofNat (nat_lit 1)))] h)
  fun j vs h => unc vs fun x3 vs =>
  ret1 x3 h
def a23 : List Ann := [.no, .loop [0, 3, 4] [((.exit 0), [3])], .no, .no, .join [(.normal, [0, 3, 4])]]
theorem e23 : f23 = evFun Tryz.prog 23 1 a23 t23 := by kernel_rfl
theorem o23 : FnOk Tryz.prog 23 f23 := .of hmO (show enters Tryz.prog 23 = true by kernel_rfl) e23 (.cons o20 (.nil))

/- concord/concordlaw27.CalmRuns -/
noncomputable def l5 : List (Nat × (List V → HT → Option J)) := [(17, f17), (19, f19), (21, f21), (22, f22), (23, f23)]
noncomputable def t5 : Fns := tab l5
noncomputable def f5_0 (x5 : V) (x12 : V) (h : HT) : Option J := tstv x12 (ret1 (.bool false) h)
  (bndV (kBld [(.int .i64 (.ofNat (nat_lit 0))), (.int .i64 (.ofNat (nat_lit 0))), (.int .i64 (.ofNat (nat_lit 0))), (.str (sb [])), (.str (sb [])), (.str (sb [])), (.str (sb []))] [(0, 1), (3, 1)] [(.int .i64 (.ofNat (nat_lit 2))), (.str (sb [97]))]) fun x14 =>
  bndV (kBld [(.int .i64 (.ofNat (nat_lit 0))), (.int .i64 (.ofNat (nat_lit 0))), (.int .i64 (.ofNat (nat_lit 0))), (.int .i64 (.ofNat (nat_lit 0))), (.int .i64 (.ofNat (nat_lit 0))), (.int .i64 (.ofNat (nat_lit 0))), (.int .i64 (.ofNat (nat_lit 0))), (.str (sb [])), (.str (sb [])), (.str (sb [])), (.str (sb [])), (.slice none 0 true 0)] [(0, 1), (3, 1), (4, 7)] [(.int .i64 (.ofNat (nat_lit 1))), (.int .i64 (.ofNat (nat_lit 1))), x14]) fun x15 =>
  bndV (kBld [(.int .i64 (.ofNat (nat_lit 0))), (.int .i64 (.ofNat (nat_lit 0))), (.int .i64 (.ofNat (nat_lit 0))), (.int .i64 (.ofNat (nat_lit 0))), (.int .i64 (.ofNat (nat_lit 0))), (.int .i64 (.ofNat (nat_lit 0))), (.int .i64 (.ofNat (nat_lit 0))), (.str (sb [])), (.str (sb [])), (.str (sb [])), (.str (sb [])), (.slice none 0 true 0)] [(0, 1)] [(.int .i64 (.ofNat (nat_lit 8)))]) fun x16 =>
  bndN (kBsl 12 2 [(.int .i64 (.ofNat (nat_lit 0))), (.int .i64 (.ofNat (nat_lit 0))), (.int .i64 (.ofNat (nat_lit 0))), (.int .i64 (.ofNat (nat_lit 0))), (.int .i64 (.ofNat (nat_lit 0))), (.int .i64 (.ofNat (nat_lit 0))), (.int .i64 (.ofNat (nat_lit 0))), (.str (sb [])), (.str (sb [])), (.str (sb [])), (.str (sb [])), (.slice none 0 true 0), (.int .i64 (.ofNat (nat_lit 0))), (.int .i64 (.ofNat (nat_lit 0))), (.int .i64 (.ofNat (nat_lit 0))), (.int .i64 (.ofNat (nat_lit 0))), (.int .i64 (.ofNat (nat_lit 0))), (.int .i64 (.ofNat (nat_lit 0))), (.int .i64 (.ofNat (nat_lit 0))), (.str (sb [])), (.str (sb [])), (.str (sb [])), (.str (sb [])), (.slice none 0 true 0)] [(0, 12), (12, 12)] [x15, x16]) h fun x17 h =>
  bndC (f21 [x5, x17] h) fun x18 h =>
  bndC (f22 [x5, (.int .i64 (.ofNat (nat_lit 60)))] h) fun x20 h =>
  bndC (f23 [x5] h) fun x22 h =>
  bndV (kBin .eql [x22, (.int .i64 (.ofNat (nat_lit 0)))]) fun x23 =>
  bndC (gsel x23 true (retV (kMov [x5]) h) h) fun x25 h =>
  bndC (gsel x23 true (f19 [x25] h) h) fun x26 h =>
  bndC (gsel x23 true (retV (kLenS [x26]) h) h) fun x27 h =>
  bndC (gsel x23 true (retV (kBin .eql [x27, (.int .i64 (.ofNat (nat_lit 2)))]) h) h) fun x28 h =>
  bndV (kPick [x23, x28, (.bool false)]) fun x29 =>
  ret1 x29 h)
noncomputable def f5 (vs : List V) (h : HT) : Option J := bndC (f17 [(.int .i64 (.ofNat (nat_lit 3)))] h) fun x4 h =>
  bndV (kExt 0 [x4]) fun x5 =>
  bndV (kExt 1 [x4]) fun x6 =>
  bndV (kEqN false [x5, (.ptr none)]) fun x8 =>
  bndC (gsel x8 false (retV (kMov [x6]) h) h) fun x10 h =>
  bndC (gsel x8 false (retV (kBin .neq [x10, (.int .i64 (.ofNat (nat_lit 0)))]) h) h) fun x11 h =>
  bndV (kPick [x8, (.bool true), x11]) fun x12 =>
  (f5_0 x5 x12 h)
def a5 : List Ann := [.no]
theorem e5 : f5 = evFun Tryz.prog 5 0 a5 t5 := by kernel_rfl
theorem o5 : FnOk Tryz.prog 5 f5 := .of hmO (show enters Tryz.prog 5 = true by kernel_rfl) e5 (.cons o17 (.cons o19 (.cons o21 (.cons o22 (.cons o23 (.nil))))))
end Go.Cn
