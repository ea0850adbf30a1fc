/- Functions of the program, told as plain functions of what they are called with, each with the proof that it is what the code does (printed by a program of the prover). -/
import Derived.Test.YtdchnobmkhcccaaGreatDoorG1
namespace Go.Cn
open Go.Proofs
set_option maxRecDepth 100000
set_option linter.unusedVariables false
/- (*concord/interf.Index).Attr -/
noncomputable def l121 : List (Nat × (List V → HT → Option J)) := [(128, f128)]
noncomputable def t121 : Fns := tab l121
noncomputable def f121_0 (rc : List V → HT → Option J) (x0 : V) (x4 : V) (x5 : V) (x6 : V) (x7 : V) (x8 : V) (x15 : V) (x45 : V) (x46 : V) (h : HT) : Option J := bndE (dSt h 1 [x46, x45]) h fun _ h =>
  bndV (kFa 0 [x8]) fun x47 =>
  bndV (qLd h none [x47]) fun x48 =>
  bndV (kFa 0 [x8]) fun x49 =>
  bndV (qLd h none [x49]) fun x50 =>
  bndV (kFa 1 [x7]) fun x51 =>
  bndV (kIaA 7 1 [x51, x50]) fun x52 =>
  bndV (qLd h none [x52]) fun x53 =>
  bndV (kFa 1 [x8]) fun x54 =>
  bndV (qLd h none [x54]) fun x55 =>
  bndV (kMaxI [x53, x55]) fun x56 =>
  bndV (kFa 1 [x7]) fun x57 =>
  bndV (kIaA 7 1 [x57, x48]) fun x58 =>
  bndE (dSt h 1 [x58, x56]) h fun _ h =>
  rc [x0, x4, x5, x6, x7, x15] h
noncomputable def f121_1 (rc : List V → HT → Option J) (x0 : V) (x4 : V) (x5 : V) (x6 : V) (x7 : V) (x8 : V) (x9 : V) (x15 : V) (x32 : V) (x34 : V) (h : HT) : Option J := bndC (gsel x32 false (retV (qLd h (some 7) [x34]) h) h) fun x35 h =>
  bndC (gsel x32 false (retV (qLd h (some 7) [x5]) h) h) fun x36 h =>
  bndC (gsel x32 false (noF [x35, x36] h) h) fun x37 h =>
  bndC (gsel x32 false (retV (kUn .not [x37]) h) h) fun x38 h =>
  bndV (kPick [x32, (.bool true), x38]) fun x39 =>
  tstv x39 (rc [x0, x4, x5, x6, x7, x15] h)
  (bndV (kFa 0 [x7]) fun x40 =>
  bndV (qLd h none [x40]) fun x41 =>
  bndV (kFa 7 [x9]) fun x42 =>
  bndV (qLd h none [x42]) fun x43 =>
  bndV (kBin .add [x43, (.int .i64 (.ofNat (nat_lit 1)))]) fun x44 =>
  bndV (kMaxI [x41, x44]) fun x45 =>
  bndV (kFa 0 [x7]) fun x46 =>
  (f121_0 rc x0 x4 x5 x6 x7 x8 x15 x45 x46 h))
noncomputable def f121_2 (rc : List V → HT → Option J) (x0 : V) (x4 : V) (x5 : V) (x6 : V) (x7 : V) (x8 : V) (x9 : V) (x15 : V) (x19 : V) (x20 : V) (h : HT) : Option J := bndE (dSt h 2 [x8, x19]) h fun _ h =>
  bndE (dSt h 8 [x9, x20]) h fun _ h =>
  bndV (kFa 0 [x8]) fun x21 =>
  bndV (qLd h none [x21]) fun x22 =>
  bndV (kFa 0 [x4]) fun x23 =>
  bndV (qLd h none [x23]) fun x24 =>
  bndV (kBin .eql [x22, x24]) fun x25 =>
  bndC (gsel x25 true (retV (kFa 1 [x8]) h) h) fun x27 h =>
  bndC (gsel x25 true (retV (qLd h none [x27]) h) h) fun x28 h =>
  bndC (gsel x25 true (retV (kFa 1 [x4]) h) h) fun x29 h =>
  bndC (gsel x25 true (retV (qLd h none [x29]) h) h) fun x30 h =>
  bndC (gsel x25 true (retV (kBin .geq [x28, x30]) h) h) fun x31 h =>
  bndV (kPick [x25, x31, (.bool false)]) fun x32 =>
  bndC (gsel x32 false (retV (kFa 0 [x9]) h) h) fun x34 h =>
  (f121_1 rc x0 x4 x5 x6 x7 x8 x9 x15 x32 x34 h)
noncomputable def f121_3 (rc : List V → HT → Option J) (x0 : V) (vs : List V) (h : HT) : Option J := unc vs fun x4 vs =>
  unc vs fun x5 vs =>
  unc vs fun x6 vs =>
  unc vs fun x7 vs =>
  unc vs fun x15 vs =>
  bndE (dNx h [x15]) h fun x16 h =>
  bndV (kExt 0 [x16]) fun x17 =>
  tstv x17 (bndV (kEnt h.heap [x15]) fun x18 =>
  bndV (kExt 0 [x18]) fun x19 =>
  bndV (kExt 1 [x18]) fun x20 =>
  bndN (kAlloc [(.int .i64 (.ofNat (nat_lit 0))), (.int .i64 (.ofNat (nat_lit 0)))] []) h fun x8 h =>
  bndN (kAlloc [(.int .i64 (.ofNat (nat_lit 0))), (.int .i64 (.ofNat (nat_lit 0))), (.int .i64 (.ofNat (nat_lit 0))), (.str (sb [])), (.str (sb [])), (.str (sb [])), (.str (sb [])), (.int .i64 (.ofNat (nat_lit 0)))] []) h fun x9 h =>
  (f121_2 rc x0 x4 x5 x6 x7 x8 x9 x15 x19 x20 h))
  (some ⟨0, [x0, x4, x6, x7], h⟩)
noncomputable def f121_4 (x0 : V) (x4 : V) (x6 : V) (x7 : V) (x59 : V) (x83 : V) (h : HT) : Option J := bndJ (tstv x83 (bndV (kFa 1 [x7]) fun x86 =>
  bndV (kIaA 7 1 [x86, x59]) fun x87 =>
  bndV (qLd h none [x87]) fun x88 =>
  bndV (kFa 1 [x4]) fun x89 =>
  bndV (qLd h none [x89]) fun x90 =>
  bndV (kBin .sub [x90, (.int .i64 (.ofNat (nat_lit 1)))]) fun x91 =>
  bndV (kMaxI [x88, x91]) fun x92 =>
  bndV (kFa 1 [x7]) fun x93 =>
  bndV (kIaA 7 1 [x93, x59]) fun x94 =>
  bndE (dSt h 1 [x94, x92]) h fun _ h =>
  some ⟨0, [x0, x4, x6, x7, x59], h⟩)
  (some ⟨0, [x0, x4, x6, x7, x59], h⟩))
  fun j vs h => unc vs fun x0 vs =>
  unc vs fun x4 vs =>
  unc vs fun x6 vs =>
  unc vs fun x7 vs =>
  unc vs fun x59 vs =>
  some ⟨0, [x0, x4, x6, x7, x59], h⟩
noncomputable def f121_5 (x0 : V) (x4 : V) (x6 : V) (x7 : V) (x59 : V) (x66 : V) (h : HT) : Option J := tstv x66 (bndV (kFa 1 [x7]) fun x69 =>
  bndV (kIaA 7 1 [x69, x59]) fun x70 =>
  bndV (qLd h none [x70]) fun x71 =>
  bndV (kNilc [x0]) fun x74 =>
  bndV (kFa 1 [x74]) fun x75 =>
  bndV (kIaA 7 1 [x75, x59]) fun x76 =>
  bndV (qLd h none [x76]) fun x77 =>
  bndV (kMaxI [x71, x77]) fun x78 =>
  bndV (kFa 1 [x7]) fun x79 =>
  bndV (kIaA 7 1 [x79, x59]) fun x80 =>
  bndE (dSt h 1 [x80, x78]) h fun _ h =>
  some ⟨0, [x0, x4, x6, x7, x59], h⟩)
  (bndV (qLd h (some 2) [x4]) fun x82 =>
  bndC (f128 [x82] h) fun x83 h =>
  (f121_4 x0 x4 x6 x7 x59 x83 h))
noncomputable def f121_6 (rc : List V → HT → Option J) (x0 : V) (x4 : V) (x6 : V) (x7 : V) (x59 : V) (h : HT) : Option J := bndV (kBin .lss [x59, (.int .i64 (.ofNat (nat_lit 7)))]) fun x60 =>
  tstv x60 (bndV (kFa 0 [x4]) fun x64 =>
  bndV (qLd h none [x64]) fun x65 =>
  bndV (kBin .neq [x59, x65]) fun x66 =>
  bndJ ((f121_5 x0 x4 x6 x7 x59 x66 h))
  fun j vs h => unc vs fun x0 vs =>
  unc vs fun x4 vs =>
  unc vs fun x6 vs =>
  unc vs fun x7 vs =>
  unc vs fun x59 vs =>
  bndV (kBin .add [x59, (.int .i64 (.ofNat (nat_lit 1)))]) fun x95 =>
  rc [x0, x4, x6, x7, x95] h)
  (some ⟨0, [x6, x7], h⟩)
noncomputable def f121_7 (x0 : V) (x4 : V) (x6 : V) (vs : List V) (h : HT) : Option J := unc vs fun x7 vs =>
  bndJ (loopF (fun rc vs h => unc vs fun x0 vs =>
  unc vs fun x4 vs =>
  unc vs fun x6 vs =>
  unc vs fun x7 vs =>
  unc vs fun x59 vs =>
  (f121_6 rc x0 x4 x6 x7 x59 h)) 1000000 [x0, x4, x6, x7, (.int .i64 (.ofNat (nat_lit 0)))] h)
  fun j vs h => unc vs fun x6 vs =>
  unc vs fun x7 vs =>
  bndV (qLd h (some 8) [x7]) fun x96 =>
  bndE (dSt h 8 [x6, x96]) h fun _ h =>
  bndV (qLd h (some 8) [x6]) fun x900000 =>
  ret1 x900000 h
noncomputable def f121_8 (x0 : V) (x2 : V) (x4 : V) (h : HT) : Option J := bndN (kBox [x2]) h fun x5 h =>
  bndN (kAlloc [(.int .i64 (.ofNat (nat_lit 0))), (.int .i64 (.ofNat (nat_lit 0))), (.int .i64 (.ofNat (nat_lit 0))), (.int .i64 (.ofNat (nat_lit 0))), (.int .i64 (.ofNat (nat_lit 0))), (.int .i64 (.ofNat (nat_lit 0))), (.int .i64 (.ofNat (nat_lit 0))), (.int .i64 (.ofNat (nat_lit 0)))] []) h fun x6 h =>
  bndN (kAlloc [(.int .i64 (.ofNat (nat_lit 0))), (.int .i64 (.ofNat (nat_lit 0))), (.int .i64 (.ofNat (nat_lit 0))), (.int .i64 (.ofNat (nat_lit 0))), (.int .i64 (.ofNat (nat_lit 0))), (.int .i64 (.ofNat (nat_lit 0))), (.int .i64 (.ofNat (nat_lit 0))), (.int .i64 (.ofNat (nat_lit 0)))] []) h fun x7 h =>
  bndV (kNilc [x0]) fun x12 =>
  bndV (kFa 0 [x12]) fun x13 =>
  bndV (qLd h none [x13]) fun x14 =>
  bndN (kRng h.heap [x14]) h fun x15 h =>
  bndJ (loopF (fun rc vs h => unc vs fun x0 vs =>
  (f121_3 rc x0 vs h)) 1000000 [x0, x4, x5, x6, x7, x15] h)
  fun j vs h => unc vs fun x0 vs =>
  unc vs fun x4 vs =>
  unc vs fun x6 vs =>
  (f121_7 x0 x4 x6 vs h)
noncomputable def f121 (vs : List V) (h : HT) : Option J := unc vs fun x0 vs =>
  unc vs fun x1 vs =>
  unc vs fun x2 vs =>
  bndN (kBox [x1]) h fun x4 h =>
  (f121_8 x0 x2 x4 h)
def a121 : List Ann := [.no, .loop [0, 4, 5, 6, 7, 15] [((.exit 0), [0, 4, 6, 7])], .no, .no, .no, .no, .loop [0, 4, 6, 7, 59] [((.exit 2), [6, 7])], .no, .no, .no, .join [(.normal, [0, 4, 6, 7, 59])], .join [(.normal, [0, 4, 6, 7, 59])]]
theorem e121 : f121 = evFun Tryz.prog 121 3 a121 t121 := by kernel_rfl
theorem o121 : FnOk Tryz.prog 121 f121 := .of hmO (show enters Tryz.prog 121 = true by kernel_rfl) e121 (.cons o128 (.nil))

/- concord/pack.Flag -/
noncomputable def l257 : List (Nat × (List V → HT → Option J)) := [(176, f176)]
noncomputable def t257 : Fns := tab l257

noncomputable def f257 (vs : List V) (h : HT) : Option J := unc vs fun x0 vs =>
  unc vs fun x1 vs =>
  tstv x1 (bndC (f176 [x0, (.int .i64 (.ofNat (nat_lit 1)))] h) fun x7 h =>
  bndN (kBsl 1 1 [(.int .u8 (.ofNat (nat_lit 0)))] [(0, 1)] [(.int .u8 (.ofNat (nat_lit 1)))]) h fun x8 h =>
  bndE (dApp h 1 1 [x7, x8]) h fun x9 h =>
  ret1 x9 h)
  (bndC (f176 [x0, (.int .i64 (.ofNat (nat_lit 1)))] h) fun x11 h =>
  bndN (kBsl 1 1 [(.int .u8 (.ofNat (nat_lit 0)))] [(0, 1)] [(.int .u8 (.ofNat (nat_lit 0)))]) h fun x12 h =>
  bndE (dApp h 1 1 [x11, x12]) h fun x13 h =>
  ret1 x13 h)
def a257 : List Ann := [.no]
theorem e257 : f257 = evFun Tryz.prog 257 2 a257 t257 := by kernel_rfl
theorem o257 : FnOk Tryz.prog 257 f257 := .of hmO (show enters Tryz.prog 257 = true by kernel_rfl) e257 (.cons o176 (.nil))

/- concord/letter.ballot -/
noncomputable def l311 : List (Nat × (List V → HT → Option J)) := [(108, f108)]
noncomputable def t311 : Fns := tab l311

noncomputable def f311 (vs : List V) (h : HT) : Option J := unc vs fun x0 vs =>
  unc vs fun x1 vs =>
  bndN (kBox [x1]) h fun x3 h =>
  bndV (kFa 0 [x3]) fun x6 =>
  bndV (qLd h none [x6]) fun x7 =>
  bndV (kFa 1 [x3]) fun x9 =>
  bndV (qLd h none [x9]) fun x10 =>
  bndC (f108 [x0, x7] h) fun x8 h =>
  chk1 (sameE (qLd h none [x9]) x10) (bndC (f108 [x8, x10] h) fun x11 h =>
  ret1 x11 h)
def a311 : List Ann := []
theorem e311 : f311 = evFun Tryz.prog 311 2 a311 t311 := by kernel_rfl
theorem o311 : FnOk Tryz.prog 311 f311 := .of hmO (show enters Tryz.prog 311 = true by kernel_rfl) e311 (.cons o108 (.nil))

/- concord/pack.Text -/
noncomputable def l258 : List (Nat × (List V → HT → Option J)) := [(176, f176), (184, f184)]
noncomputable def t258 : Fns := tab l258

noncomputable def f258 (vs : List V) (h : HT) : Option J := unc vs fun x0 vs =>
  unc vs fun x1 vs =>
  bndV (kLenT [x1]) fun x7 =>
  bndV (kBin .add [(.int .i64 (.ofNat (nat_lit 10))), x7]) fun x8 =>
  bndC (f176 [x0, x8] h) fun x9 h =>
  bndV (kLenT [x1]) fun x11 =>
  bndC (f184 [x9, x11] h) fun x12 h =>
  bndE (dAppStr h [x12, x1]) h fun x14 h =>
  ret1 x14 h
def a258 : List Ann := []
theorem e258 : f258 = evFun Tryz.prog 258 2 a258 t258 := by kernel_rfl
theorem o258 : FnOk Tryz.prog 258 f258 := .of hmO (show enters Tryz.prog 258 = true by kernel_rfl) e258 (.cons o176 (.cons o184 (.nil)))

/- concord/cmd.Put -/
noncomputable def l312 : List (Nat × (List V → HT → Option J)) := [(40, f40), (108, f108), (258, f258)]
noncomputable def t312 : Fns := tab l312
noncomputable def f312_0 (x3 : V) (x27 : V) (x29 : V) (x37 : V) (h : HT) : Option J := tstv x37 (bndV (kFa 5 [x3]) fun x39 =>
  bndV (qLd h none [x39]) fun x40 =>
  bndV (kFa 6 [x3]) fun x42 =>
  bndV (qLd h none [x42]) fun x43 =>
  bndC (f258 [x27, x40] h) fun x41 h =>
  chk1 (sameE (qLd h none [x42]) x43) (bndC (f258 [x41, x43] h) fun x44 h =>
  some ⟨0, [x44], h⟩))
  (bndV (kBin .eql [x29, (.int .i64 (.ofNat (nat_lit 5)))]) fun x46 =>
  bndJ (tstv x46 (bndV (kFa 4 [x3]) fun x48 =>
  bndV (qLd h none [x48]) fun x49 =>
  bndC (f258 [x27, x49] h) fun x50 h =>
  some ⟨0, [x50], h⟩)
  (some ⟨0, [x27], h⟩))
  fun j vs h => unc vs fun x0 vs =>
  some ⟨0, [x0], h⟩)
noncomputable def f312_1 (x3 : V) (x27 : V) (x28 : V) (h : HT) : Option J := bndV (qLd h none [x28]) fun x29 =>
  bndV (kBin .eql [x29, (.int .i64 (.ofNat (nat_lit 2)))]) fun x31 =>
  bndJ (tstv x31 (bndV (kFa 6 [x3]) fun x33 =>
  bndV (qLd h none [x33]) fun x34 =>
  bndC (f258 [x27, x34] h) fun x35 h =>
  some ⟨0, [x35], h⟩)
  (bndV (kBin .eql [x29, (.int .i64 (.ofNat (nat_lit 4)))]) fun x37 =>
  bndJ ((f312_0 x3 x27 x29 x37 h))
  fun j vs h => unc vs fun x0 vs =>
  some ⟨0, [x0], h⟩))
  fun j vs h => unc vs fun x0 vs =>
  ret1 x0 h
noncomputable def f312_2 (x3 : V) (x13 : V) (x16 : V) (h : HT) : Option J := tstv x16 (ret1 x13 h)
  (bndV (kFa 1 [x3]) fun x19 =>
  bndV (qLd h none [x19]) fun x20 =>
  bndV (kFa 2 [x3]) fun x22 =>
  bndV (qLd h none [x22]) fun x23 =>
  bndV (kFa 3 [x3]) fun x25 =>
  bndV (qLd h none [x25]) fun x26 =>
  bndC (f108 [x13, x20] h) fun x21 h =>
  chk1 (sameE (qLd h none [x25]) x26) (chk1 (sameE (qLd h none [x22]) x23) (bndC (f108 [x21, x23] h) fun x24 h =>
  chk1 (sameE (qLd h none [x25]) x26) (bndC (f258 [x24, x26] h) fun x27 h =>
  bndV (kFa 0 [x3]) fun x28 =>
  (f312_1 x3 x27 x28 h)))))
noncomputable def f312_3 (x0 : V) (vs : List V) (h : HT) : Option J := unc vs fun x1 vs =>
  bndN (kBox [x1]) h fun x3 h =>
  bndV (qLd h (some 7) [x3]) fun x5 =>
  bndC (f40 [x5] h) fun x6 h =>
  bndV (kUn .not [x6]) fun x7 =>
  tstv x7 (bndE (dApp h 1 1 [(.slice none 0 true 0), x0]) h fun x9 h =>
  ret1 x9 h)
  (bndV (kFa 0 [x3]) fun x11 =>
  bndV (qLd h none [x11]) fun x12 =>
  bndC (f108 [x0, x12] h) fun x13 h =>
  bndV (kFa 0 [x3]) fun x14 =>
  bndV (qLd h none [x14]) fun x15 =>
  bndV (kBin .eql [x15, (.int .i64 (.ofNat (nat_lit 0)))]) fun x16 =>
  (f312_2 x3 x13 x16 h))
noncomputable def f312 (vs : List V) (h : HT) : Option J := unc vs fun x0 vs =>
  (f312_3 x0 vs h)
def a312 : List Ann := [.no, .no, .no, .join [(.normal, [0])], .join [(.normal, [0])], .join [(.normal, [0])]]
theorem e312 : f312 = evFun Tryz.prog 312 2 a312 t312 := by kernel_rfl
theorem o312 : FnOk Tryz.prog 312 f312 := .of hmO (show enters Tryz.prog 312 = true by kernel_rfl) e312 (.cons o40 (.cons o108 (.cons o258 (.nil))))

/- concord/deps.Put -/
noncomputable def l313 : List (Nat × (List V → HT → Option J)) := [(108, f108)]
noncomputable def t313 : Fns := tab l313
noncomputable def f313_0 (x10 : V) (x11 : V) (h : HT) : Option J := bndV (qLd h (some 7) [x11]) fun x12 =>
  bndJ (loopF (fun rc vs h => unc vs fun x0 vs =>
  unc vs fun x12 vs =>
  unc vs fun x13 vs =>
  bndV (kBin .lss [x13, (.int .i64 (.ofNat (nat_lit 7)))]) fun x14 =>
  tstv x14 (bndV (kIxA 7 1 false [x12, x13]) fun x15 =>
  bndC (f108 [x0, x15] h) fun x18 h =>
  bndV (kBin .add [x13, (.int .i64 (.ofNat (nat_lit 1)))]) fun x19 =>
  rc [x18, x12, x19] h)
  (some ⟨0, [x0], h⟩)) 1000000 [x10, x12, (.int .i64 (.ofNat (nat_lit 0)))] h)
  fun j vs h => unc vs fun x0 vs =>
  ret1 x0 h
noncomputable def f313 (vs : List V) (h : HT) : Option J := unc vs fun x0 vs =>
  unc vs fun x1 vs =>
  bndN (kBox [x1]) h fun x3 h =>
  bndV (kFa 0 [x3]) fun x8 =>
  bndV (qLd h none [x8]) fun x9 =>
  bndC (f108 [x0, x9] h) fun x10 h =>
  bndV (kFa 1 [x3]) fun x11 =>
  (f313_0 x10 x11 h)
def a313 : List Ann := [.no, .loop [0, 12, 13] [((.exit 0), [0])], .no, .no]
theorem e313 : f313 = evFun Tryz.prog 313 2 a313 t313 := by kernel_rfl
theorem o313 : FnOk Tryz.prog 313 f313 := .of hmO (show enters Tryz.prog 313 = true by kernel_rfl) e313 (.cons o108 (.nil))

/- concord/letter.PutCell -/
noncomputable def l263 : List (Nat × (List V → HT → Option J)) := [(108, f108), (130, f130), (257, f257), (311, f311), (312, f312), (313, f313)]
noncomputable def t263 : Fns := tab l263
noncomputable def f263_0 (x3 : V) (x16 : V) (h : HT) : Option J := bndV (kFa 3 [x3]) fun x22 =>
  bndV (qLd h (some 2) [x22]) fun x23 =>
  bndV (kFa 5 [x3]) fun x25 =>
  bndV (qLd h (some 7) [x25]) fun x26 =>
  bndC (f311 [x16, x23] h) fun x24 h =>
  chk1 (sameE (qLd h (some 7) [x25]) x26) (bndC (f312 [x24, x26] h) fun x27 h =>
  bndV (kFa 12 [x3]) fun x29 =>
  bndV (qLd h (some 8) [x29]) fun x30 =>
  bndV (kFa 20 [x3]) fun x32 =>
  bndV (qLd h none [x32]) fun x33 =>
  bndC (f313 [x27, x30] h) fun x31 h =>
  chk1 (sameE (qLd h none [x32]) x33) (bndC (f257 [x31, x33] h) fun x34 h =>
  ret1 x34 h))
noncomputable def f263_1 (x0 : V) (x3 : V) (x7 : V) (h : HT) : Option J := tstv x7 (bndE (dApp h 1 1 [(.slice none 0 true 0), x0]) h fun x9 h =>
  ret1 x9 h)
  (bndV (kFa 0 [x3]) fun x11 =>
  bndV (qLd h none [x11]) fun x12 =>
  bndV (kFa 1 [x3]) fun x14 =>
  bndV (qLd h (some 2) [x14]) fun x15 =>
  bndC (f108 [x0, x12] h) fun x13 h =>
  chk1 (sameE (qLd h (some 2) [x14]) x15) (bndC (f311 [x13, x15] h) fun x16 h =>
  bndV (kFa 0 [x3]) fun x17 =>
  bndV (qLd h none [x17]) fun x18 =>
  bndV (kBin .eql [x18, (.int .i64 (.ofNat (nat_lit 0)))]) fun x19 =>
  tstv x19 (ret1 x16 h)
  ((f263_0 x3 x16 h))))
noncomputable def f263 (vs : List V) (h : HT) : Option J := unc vs fun x0 vs =>
  unc vs fun x1 vs =>
  bndN (kBox [x1]) h fun x3 h =>
  bndV (qLd h (some 21) [x3]) fun x5 =>
  bndC (f130 [x5] h) fun x6 h =>
  bndV (kUn .not [x6]) fun x7 =>
  (f263_1 x0 x3 x7 h)
def a263 : List Ann := [.no, .no]
theorem e263 : f263 = evFun Tryz.prog 263 2 a263 t263 := by kernel_rfl
theorem o263 : FnOk Tryz.prog 263 f263 := .of hmO (show enters Tryz.prog 263 = true by kernel_rfl) e263 (.cons o108 (.cons o130 (.cons o257 (.cons o311 (.cons o312 (.cons o313 (.nil)))))))

/- concord/log.Record -/
noncomputable def l198 : List (Nat × (List V → HT → Option J)) := [(108, f108), (263, f263)]
noncomputable def t198 : Fns := tab l198
noncomputable def f198_0 (x0 : V) (vs : List V) (h : HT) : Option J := unc vs fun x1 vs =>
  bndN (kBox [x0]) h fun x2 h =>
  bndN (kBox [x1]) h fun x3 h =>
  bndV (kFa 0 [x2]) fun x5 =>
  bndV (qLd h none [x5]) fun x6 =>
  bndV (kFa 1 [x2]) fun x8 =>
  bndV (qLd h none [x8]) fun x9 =>
  bndV (qLd h (some 21) [x3]) fun x11 =>
  bndC (f108 [(.slice none 0 true 0), x6] h) fun x7 h =>
  chk1 (sameE (qLd h (some 21) [x3]) x11) (chk1 (sameE (qLd h none [x8]) x9) (bndC (f108 [x7, x9] h) fun x10 h =>
  chk1 (sameE (qLd h (some 21) [x3]) x11) (bndC (f263 [x10, x11] h) fun x12 h =>
  ret1 x12 h)))
noncomputable def f198 (vs : List V) (h : HT) : Option J := unc vs fun x0 vs =>
  (f198_0 x0 vs h)
def a198 : List Ann := []
theorem e198 : f198 = evFun Tryz.prog 198 2 a198 t198 := by kernel_rfl
theorem o198 : FnOk Tryz.prog 198 f198 := .of hmO (show enters Tryz.prog 198 = true by kernel_rfl) e198 (.cons o108 (.cons o263 (.nil)))

/- (*concord/core.Core).set -/
noncomputable def l122 : List (Nat × (List V → HT → Option J)) := [(104, f104), (105, f105), (198, f198)]
noncomputable def t122 : Fns := tab l122
noncomputable def f122_0 (x0 : V) (x4 : V) (x5 : V) (x17 : V) (h : HT) : Option J := bndV (kFa 6 [x17]) fun x18 =>
  bndV (qLd h none [x18]) fun x19 =>
  bndV (qLd h (some 2) [x4]) fun x20 =>
  bndV (qLd h (some 21) [x5]) fun x21 =>
  bndC (f198 [x20, x21] h) fun x22 h =>
  chk1 (sameE (qLd h none [x18]) x19) (bndN (kBsl 1 1 [(.slice none 0 true 0)] [(0, 1)] [x22]) h fun x23 h =>
  bndE (dApp h 1 24 [x19, x23]) h fun x24 h =>
  bndV (kNilc [x0]) fun x25 =>
  bndV (kFa 6 [x25]) fun x26 =>
  bndE (dSt h 1 [x26, x24]) h fun _ h =>
  bndV (qLd h (some 2) [x4]) fun x28 =>
  bndV (qLd h (some 21) [x5]) fun x29 =>
  bndC (f105 [x0, x28, x29] h) fun x30 h =>
  ret1 (.bool true) h)
noncomputable def f122_1 (x0 : V) (vs : List V) (h : HT) : Option J := unc vs fun x1 vs =>
  unc vs fun x2 vs =>
  bndN (kBox [x1]) h fun x4 h =>
  bndN (kBox [x2]) h fun x5 h =>
  bndV (kNilc [x0]) fun x8 =>
  bndV (kFa 2 [x8]) fun x9 =>
  bndV (qLd h none [x9]) fun x10 =>
  bndV (qLd h (some 2) [x4]) fun x11 =>
  bndV (qLd h (some 21) [x5]) fun x12 =>
  bndC (f104 [x10, x11, x12] h) fun x13 h =>
  bndV (kUn .not [x13]) fun x14 =>
  tstv x14 (ret1 (.bool false) h)
  (bndV (kNilc [x0]) fun x17 =>
  (f122_0 x0 x4 x5 x17 h))
noncomputable def f122 (vs : List V) (h : HT) : Option J := unc vs fun x0 vs =>
  (f122_1 x0 vs h)
def a122 : List Ann := [.no]
theorem e122 : f122 = evFun Tryz.prog 122 3 a122 t122 := by kernel_rfl
theorem o122 : FnOk Tryz.prog 122 f122 := .of hmO (show enters Tryz.prog 122 = true by kernel_rfl) e122 (.cons o104 (.cons o105 (.cons o198 (.nil))))

/- (*concord/core.Core).leave$1 -/
noncomputable def l269 : List (Nat × (List V → HT → Option J)) := []
noncomputable def t269 : Fns := tab l269

noncomputable def f269 (vs : List V) (h : HT) : Option J := unc vs fun x0 vs =>
  unc vs fun x1 vs =>
  bndV (kNilc [x0]) fun x5 =>
  bndV (kFa 0 [x5]) fun x6 =>
  bndV (qLd h (some 2) [x6]) fun x7 =>
  bndV (qLd h (some 2) [x1]) fun x8 =>
  bndV (kEqF false [.i, .i] [x7, x8]) fun x9 =>
  ret1 x9 h
def a269 : List Ann := []
theorem e269 : f269 = evFun Tryz.prog 269 2 a269 t269 := by kernel_rfl
theorem o269 : FnOk Tryz.prog 269 f269 := .of hmO (show enters Tryz.prog 269 = true by kernel_rfl) e269 (.nil)

/- slices.IndexFunc[[]*concord/core.lead,*concord/core.lead] -/
noncomputable def l310 : List (Nat × (List V → HT → Option J)) := [(269, f269)]
noncomputable def t310 : Fns := tab l310
noncomputable def f310_0 (x0 : V) (x1 : V) (x7 : V) (h : HT) : Option J := loopF (fun rc vs h => unc vs fun x0 vs =>
  unc vs fun x1 vs =>
  unc vs fun x7 vs =>
  unc vs fun x8 vs =>
  bndV (kBin .lss [x8, x7]) fun x9 =>
  tstv x9 (bndV (kIaS 1 [x0, x8]) fun x14 =>
  bndV (qLd h none [x14]) fun x15 =>
  bndC (callvT t310 [x1, x15] h) fun x16 h =>
  tstv x16 (some ⟨1, [x8], h⟩)
  (bndV (kBin .add [x8, (.int .i64 (.ofNat (nat_lit 1)))]) fun x18 =>
  rc [x0, x1, x7, x18] h))
  (some ⟨0, [], h⟩)) 1000000 [x0, x1, x7, (.int .i64 (.ofNat (nat_lit 0)))] h
noncomputable def f310 (vs : List V) (h : HT) : Option J := unc vs fun x0 vs =>
  unc vs fun x1 vs =>
  bndV (kLenS [x0]) fun x7 =>
  bndJ ((f310_0 x0 x1 x7 h))
  fun j vs h => nsw j (ret1 (.int .i64 (.negSucc (nat_lit 0))) h)
  fun j => unc vs fun x4 vs =>
  ret1 x4 h
def a310 : List Ann := [.no, .loop [0, 1, 7, 8] [((.exit 0), []), (.ret, [4])], .no, .no, .no]
theorem e310 : f310 = evFun Tryz.prog 310 2 a310 t310 := by kernel_rfl
theorem o310 : FnOk Tryz.prog 310 f310 := .of hmO (show enters Tryz.prog 310 = true by kernel_rfl) e310 (.cons o269 (.nil))

/- slices.DeleteFunc[[]*concord/core.lead,*concord/core.lead] -/
noncomputable def l260 : List (Nat × (List V → HT → Option J)) := [(310, f310)]
noncomputable def t260 : Fns := tab l260
noncomputable def f260_0 (rc : List V → HT → Option J) (x0 : V) (x1 : V) (x5 : V) (x6 : V) (x25 : V) (h : HT) : Option J := bndC (callvT t260 [x1, x25] h) fun x28 h =>
  bndV (kUn .not [x28]) fun x29 =>
  bndJ (tstv x29 (bndV (kIaS 1 [x0, x5]) fun x33 =>
  bndE (dSt h 1 [x33, x25]) h fun _ h =>
  bndV (kBin .add [x5, (.int .i64 (.ofNat (nat_lit 1)))]) fun x35 =>
  some ⟨0, [x0, x1, x35, x6], h⟩)
  (some ⟨0, [x0, x1, x5, x6], h⟩))
  fun j vs h => unc vs fun x0 vs =>
  unc vs fun x1 vs =>
  unc vs fun x5 vs =>
  unc vs fun x6 vs =>
  bndV (kBin .add [x6, (.int .i64 (.ofNat (nat_lit 1)))]) fun x21 =>
  rc [x0, x1, x5, x21] h
noncomputable def f260_1 (x0 : V) (x1 : V) (x10 : V) (x15 : V) (h : HT) : Option J := bndJ (loopF (fun rc vs h => unc vs fun x0 vs =>
  unc vs fun x1 vs =>
  unc vs fun x5 vs =>
  unc vs fun x6 vs =>
  bndV (kLenS [x0]) fun x18 =>
  bndV (kBin .lss [x6, x18]) fun x19 =>
  tstv x19 (bndV (kIaS 1 [x0, x6]) fun x24 =>
  bndV (qLd h none [x24]) fun x25 =>
  (f260_0 rc x0 x1 x5 x6 x25 h))
  (some ⟨0, [x0, x5], h⟩)) 1000000 [x0, x1, x10, x15] h)
  fun j vs h => unc vs fun x0 vs =>
  unc vs fun x5 vs =>
  bndV (kSlS 1 true false [x0, x5]) fun x38 =>
  bndE (dClr h [(.ptr none)] [x38]) h fun _ h =>
  bndV (kSlS 1 false true [x0, x5]) fun x41 =>
  ret1 x41 h
noncomputable def f260 (vs : List V) (h : HT) : Option J := unc vs fun x0 vs =>
  unc vs fun x1 vs =>
  bndC (f310 [x0, x1] h) fun x10 h =>
  bndV (kBin .eql [x10, (.int .i64 (.negSucc (nat_lit 0)))]) fun x12 =>
  tstv x12 (ret1 x0 h)
  (bndV (kBin .add [x10, (.int .i64 (.ofNat (nat_lit 1)))]) fun x15 =>
  (f260_1 x0 x1 x10 x15 h))
def a260 : List Ann := [.no, .no, .loop [0, 1, 5, 6] [((.exit 0), [0, 5])], .no, .no, .join [(.normal, [0, 1, 5, 6])]]
theorem e260 : f260 = evFun Tryz.prog 260 2 a260 t260 := by kernel_rfl
theorem o260 : FnOk Tryz.prog 260 f260 := .of hmO (show enters Tryz.prog 260 = true by kernel_rfl) e260 (.cons o310 (.nil))

/- (*concord/core.Core).leave -/
noncomputable def l208 : List (Nat × (List V → HT → Option J)) := [(260, f260)]
noncomputable def t208 : Fns := tab l208

noncomputable def f208 (vs : List V) (h : HT) : Option J := unc vs fun x0 vs =>
  unc vs fun x1 vs =>
  bndN (kBox [x1]) h fun x3 h =>
  bndV (kNilc [x0]) fun x6 =>
  bndV (kFa 4 [x6]) fun x7 =>
  bndV (qLd h none [x7]) fun x8 =>
  bndV (kMkF 269 [x3]) fun x9 =>
  bndC (f260 [x8, x9] h) fun x10 h =>
  bndV (kNilc [x0]) fun x11 =>
  bndV (kFa 4 [x11]) fun x12 =>
  bndE (dSt h 1 [x12, x10]) h fun _ h =>
  ret1 (.tuple []) h
def a208 : List Ann := []
theorem e208 : f208 = evFun Tryz.prog 208 2 a208 t208 := by kernel_rfl
theorem o208 : FnOk Tryz.prog 208 f208 := .of hmO (show enters Tryz.prog 208 = true by kernel_rfl) e208 (.cons o260 (.nil))

/- slices.Insert[[]*concord/core.lead,*concord/core.lead] -/
noncomputable def l267 : List (Nat × (List V → HT → Option J)) := []
noncomputable def t267 : Fns := tab l267
noncomputable def f267_0 (x0 : V) (x1 : V) (x2 : V) (x14 : V) (x19 : V) (x22 : V) (h : HT) : Option J := tstv x22 (bndE (dApp h 1 8 [x0, x2]) h fun x25 h =>
  ret1 x25 h)
  (bndV (kBin .add [x19, x14]) fun x28 =>
  bndV (kCapS [x0]) fun x30 =>
  bndV (kBin .gtr [x28, x30]) fun x31 =>
  tstv x31 (bndV (kSlS 1 false true [x0, x1]) fun x34 =>
  bndV (kBin .add [x19, x14]) fun x37 =>
  bndV (kBin .sub [x37, x1]) fun x39 =>
  none)
  (bndV (kBin .add [x19, x14]) fun x59 =>
  bndV (kSlS 1 false true [x0, x59]) fun x60 =>
  bndV (kBin .add [x1, x14]) fun x65 =>
  bndV (kSlS 1 true false [x60, x65]) fun x66 =>
  none))
noncomputable def f267 (vs : List V) (h : HT) : Option J := unc vs fun x0 vs =>
  unc vs fun x1 vs =>
  unc vs fun x2 vs =>
  bndV (kSlS 1 true false [x0, x1]) fun x12 =>
  bndV (kLenS [x2]) fun x14 =>
  bndV (kBin .eql [x14, (.int .i64 (.ofNat (nat_lit 0)))]) fun x16 =>
  tstv x16 (ret1 x0 h)
  (bndV (kLenS [x0]) fun x19 =>
  bndV (kBin .eql [x1, x19]) fun x22 =>
  (f267_0 x0 x1 x2 x14 x19 x22 h))
def a267 : List Ann := [.no, .no, .no, .no]
theorem e267 : f267 = evFun Tryz.prog 267 3 a267 t267 := by kernel_rfl
theorem o267 : FnOk Tryz.prog 267 f267 := .of hmO (show enters Tryz.prog 267 = true by kernel_rfl) e267 (.nil)

/- (*concord/core.Core).take -/
noncomputable def l201 : List (Nat × (List V → HT → Option J)) := [(208, f208), (267, f267)]
noncomputable def t201 : Fns := tab l201
noncomputable def f201_0 (rc : List V → HT → Option J) (x0 : V) (x1 : V) (x4 : V) (x17 : V) (x22 : V) (x23 : V) (h : HT) : Option J := bndC (gsel x17 true (retV (kIaS 1 [x22, x23]) h) h) fun x24 h =>
  bndC (gsel x17 true (retV (qLd h none [x24]) h) h) fun x25 h =>
  bndC (gsel x17 true (retV (kNilc [x25]) h) h) fun x26 h =>
  bndC (gsel x17 true (retV (kFa 0 [x26]) h) h) fun x27 h =>
  bndC (gsel x17 true (retV (qLd h (some 2) [x27]) h) h) fun x28 h =>
  bndC (gsel x17 true (retV (kMov [x1]) h) h) fun x29 h =>
  bndC (gsel x17 true (retV (kNilc [x29]) h) h) fun x30 h =>
  bndC (gsel x17 true (retV (kFa 0 [x30]) h) h) fun x31 h =>
  bndC (gsel x17 true (retV (qLd h (some 2) [x31]) h) h) fun x32 h =>
  bndC (gsel x17 true (noF [x28, x32] h) h) fun x33 h =>
  bndV (kPick [x17, x33, (.bool false)]) fun x34 =>
  tstv x34 (bndV (kBin .add [x4, (.int .i64 (.ofNat (nat_lit 1)))]) fun x36 =>
  rc [x0, x1, x36] h)
  (some ⟨0, [x0, x1, x4], h⟩)
noncomputable def f201_1 (x0 : V) (x1 : V) (h : HT) : Option J := loopF (fun rc vs h => unc vs fun x0 vs =>
  unc vs fun x1 vs =>
  unc vs fun x4 vs =>
  bndV (kNilc [x0]) fun x13 =>
  bndV (kFa 4 [x13]) fun x14 =>
  bndV (qLd h none [x14]) fun x15 =>
  bndV (kLenS [x15]) fun x16 =>
  bndV (kBin .lss [x4, x16]) fun x17 =>
  bndC (gsel x17 true (retV (kMov [x0]) h) h) fun x19 h =>
  bndC (gsel x17 true (retV (kNilc [x19]) h) h) fun x20 h =>
  bndC (gsel x17 true (retV (kFa 4 [x20]) h) h) fun x21 h =>
  bndC (gsel x17 true (retV (qLd h none [x21]) h) h) fun x22 h =>
  bndC (gsel x17 true (retV (kMov [x4]) h) h) fun x23 h =>
  (f201_0 rc x0 x1 x4 x17 x22 x23 h)) 1000000 [x0, x1, (.int .i64 (.ofNat (nat_lit 0)))] h
noncomputable def f201_2 (x0 : V) (x1 : V) (x9 : V) (h : HT) : Option J := bndC (f208 [x0, x9] h) fun x10 h =>
  bndJ ((f201_1 x0 x1 h))
  fun j vs h => unc vs fun x0 vs =>
  unc vs fun x1 vs =>
  unc vs fun x4 vs =>
  bndV (kNilc [x0]) fun x39 =>
  bndV (kFa 4 [x39]) fun x40 =>
  bndV (qLd h none [x40]) fun x41 =>
  bndN (kBsl 1 1 [(.ptr none)] [(0, 1)] [x1]) h fun x44 h =>
  bndC (f267 [x41, x4, x44] h) fun x45 h =>
  bndV (kNilc [x0]) fun x46 =>
  bndV (kFa 4 [x46]) fun x47 =>
  bndE (dSt h 1 [x47, x45]) h fun _ h =>
  ret1 (.tuple []) h
noncomputable def f201 (vs : List V) (h : HT) : Option J := unc vs fun x0 vs =>
  unc vs fun x1 vs =>
  bndV (kNilc [x1]) fun x7 =>
  bndV (kFa 0 [x7]) fun x8 =>
  bndV (qLd h (some 2) [x8]) fun x9 =>
  (f201_2 x0 x1 x9 h)
def a201 : List Ann := [.no, .loop [0, 1, 4] [((.exit 0), [0, 1, 4])], .no, .no]
theorem e201 : f201 = evFun Tryz.prog 201 2 a201 t201 := by kernel_rfl
theorem o201 : FnOk Tryz.prog 201 f201 := .of hmO (show enters Tryz.prog 201 = true by kernel_rfl) e201 (.cons o208 (.cons o267 (.nil)))

/- (*concord/core.Core).send -/
noncomputable def l206 : List (Nat × (List V → HT → Option J)) := []
noncomputable def t206 : Fns := tab l206
noncomputable def f206_0 (x0 : V) (x1 : V) (x5 : V) (x8 : V) (h : HT) : Option J := bndV (qLd h none [x8]) fun x9 =>
  bndV (kFa 1 [x5]) fun x11 =>
  bndE (dSt h 1 [x11, x9]) h fun _ h =>
  bndV (kFa 2 [x5]) fun x12 =>
  bndE (dSt h 1 [x12, x1]) h fun _ h =>
  bndV (kNilc [x0]) fun x15 =>
  bndV (kFa 7 [x15]) fun x16 =>
  bndV (qLd h none [x16]) fun x17 =>
  bndV (qLd h (some 51) [x5]) fun x18 =>
  bndN (kBsl 51 1 [(.int .i64 (.ofNat (nat_lit 0))), (.int .i64 (.ofNat (nat_lit 0))), (.int .i64 (.ofNat (nat_lit 0))), (.int .i64 (.ofNat (nat_lit 0))), (.int .i64 (.ofNat (nat_lit 0))), (.int .i64 (.ofNat (nat_lit 0))), (.int .i64 (.ofNat (nat_lit 0))), (.int .i64 (.ofNat (nat_lit 0))), (.int .i64 (.ofNat (nat_lit 0))), (.int .i64 (.ofNat (nat_lit 0))), (.str (sb [])), (.str (sb [])), (.str (sb [])), (.str (sb [])), (.int .i64 (.ofNat (nat_lit 0))), (.int .i64 (.ofNat (nat_lit 0))), (.int .i64 (.ofNat (nat_lit 0))), (.int .i64 (.ofNat (nat_lit 0))), (.int .i64 (.ofNat (nat_lit 0))), (.int .i64 (.ofNat (nat_lit 0))), (.int .i64 (.ofNat (nat_lit 0))), (.int .i64 (.ofNat (nat_lit 0))), (.int .i64 (.ofNat (nat_lit 0))), (.int .i64 (.ofNat (nat_lit 0))), (.int .i64 (.ofNat (nat_lit 0))), (.int .i64 (.ofNat (nat_lit 0))), (.int .i64 (.ofNat (nat_lit 0))), (.int .i64 (.ofNat (nat_lit 0))), (.int .i64 (.ofNat (nat_lit 0))), (.int .i64 (.ofNat (nat_lit 0))), (.str (sb [])), (.str (sb [])), (.str (sb [])), (.str (sb [])), (.int .i64 (.ofNat (nat_lit 0))), (.int .i64 (.ofNat (nat_lit 0))), (.int .i64 (.ofNat (nat_lit 0))), (.int .i64 (.ofNat (nat_lit 0))), (.int .i64 (.ofNat (nat_lit 0))), (.int .i64 (.ofNat (nat_lit 0))), (.int .i64 (.ofNat (nat_lit 0))), (.int .i64 (.ofNat (nat_lit 0))), (.bool false), (.int .i64 (.ofNat (nat_lit 0))), (.int .i64 (.ofNat (nat_lit 0))), (.int .i64 (.ofNat (nat_lit 0))), (.int .i64 (.ofNat (nat_lit 0))), (.int .i64 (.ofNat (nat_lit 0))), (.int .i64 (.ofNat (nat_lit 0))), (.int .i64 (.ofNat (nat_lit 0))), (.str (sb []))] [(0, 51)] [x18]) h fun x19 h =>
  bndE (dApp h 51 480 [x17, x19]) h fun x20 h =>
  bndV (kNilc [x0]) fun x21 =>
  bndV (kFa 7 [x21]) fun x22 =>
  bndE (dSt h 1 [x22, x20]) h fun _ h =>
  ret1 (.tuple []) h
noncomputable def f206 (vs : List V) (h : HT) : Option J := unc vs fun x0 vs =>
  unc vs fun x1 vs =>
  unc vs fun x2 vs =>
  bndN (kBox [x2]) h fun x5 h =>
  bndV (kNilc [x0]) fun x7 =>
  bndV (kFa 1 [x7]) fun x8 =>
  (f206_0 x0 x1 x5 x8 h)
def a206 : List Ann := []
theorem e206 : f206 = evFun Tryz.prog 206 3 a206 t206 := by kernel_rfl
theorem o206 : FnOk Tryz.prog 206 f206 := .of hmO (show enters Tryz.prog 206 = true by kernel_rfl) e206 (.nil)

/- (*concord/core.Core).all -/
noncomputable def l202 : List (Nat × (List V → HT → Option J)) := [(206, f206)]
noncomputable def t202 : Fns := tab l202
noncomputable def f202_0 (rc : List V → HT → Option J) (x0 : V) (x4 : V) (x5 : V) (x10 : V) (x11 : V) (x19 : V) (x23 : V) (h : HT) : Option J := bndC (gsel x19 true (retV (kBin .eql [x23, (.int .i64 (.ofNat (nat_lit 0)))]) h) h) fun x24 h =>
  bndV (kPick [x19, x24, (.bool false)]) fun x25 =>
  bndJ (tstv x25 (bndV (qLd h (some 51) [x4]) fun x28 =>
  bndC (f206 [x0, x11, x28] h) fun x29 h =>
  some ⟨0, [x0, x4, x5, x10, x11], h⟩)
  (some ⟨0, [x0, x4, x5, x10, x11], h⟩))
  fun j vs h => unc vs fun x0 vs =>
  unc vs fun x4 vs =>
  unc vs fun x5 vs =>
  unc vs fun x10 vs =>
  unc vs fun x11 vs =>
  bndV (kBin .add [x11, (.int .i64 (.ofNat (nat_lit 1)))]) fun x30 =>
  rc [x0, x4, x5, x10, x30] h
noncomputable def f202_1 (rc : List V → HT → Option J) (x0 : V) (vs : List V) (h : HT) : Option J := unc vs fun x4 vs =>
  unc vs fun x5 vs =>
  unc vs fun x10 vs =>
  unc vs fun x11 vs =>
  bndV (kBin .lss [x11, x10]) fun x12 =>
  tstv x12 (bndV (kNilc [x0]) fun x16 =>
  bndV (kFa 1 [x16]) fun x17 =>
  bndV (qLd h none [x17]) fun x18 =>
  bndV (kBin .neq [x11, x18]) fun x19 =>
  bndC (gsel x19 true (retV (kMov [x11]) h) h) fun x21 h =>
  bndC (gsel x19 true (retV (kIaA 7 1 [x5, x21]) h) h) fun x22 h =>
  bndC (gsel x19 true (retV (qLd h none [x22]) h) h) fun x23 h =>
  (f202_0 rc x0 x4 x5 x10 x11 x19 x23 h))
  (some ⟨0, [], h⟩)
noncomputable def f202 (vs : List V) (h : HT) : Option J := unc vs fun x0 vs =>
  unc vs fun x1 vs =>
  unc vs fun x2 vs =>
  bndN (kBox [x1]) h fun x4 h =>
  bndN (kBox [x2]) h fun x5 h =>
  bndV (kNilc [x0]) fun x8 =>
  bndV (kFa 0 [x8]) fun x9 =>
  bndV (qLd h none [x9]) fun x10 =>
  bndJ (loopF (fun rc vs h => unc vs fun x0 vs =>
  (f202_1 rc x0 vs h)) 1000000 [x0, x4, x5, x10, (.int .i64 (.ofNat (nat_lit 0)))] h)
  fun j vs h => ret1 (.tuple []) h
def a202 : List Ann := [.no, .loop [0, 4, 5, 10, 11] [((.exit 0), [])], .no, .no, .join [(.normal, [0, 4, 5, 10, 11])]]
theorem e202 : f202 = evFun Tryz.prog 202 3 a202 t202 := by kernel_rfl
theorem o202 : FnOk Tryz.prog 202 f202 := .of hmO (show enters Tryz.prog 202 = true by kernel_rfl) e202 (.cons o206 (.nil))

/- (*concord/core.lead).ask -/
noncomputable def l203 : List (Nat × (List V → HT → Option J)) := []
noncomputable def t203 : Fns := tab l203
noncomputable def f203_0 (x0 : V) (x2 : V) (x3 : V) (x21 : V) (h : HT) : Option J := bndV (kFa 6 [x21]) fun x22 =>
  bndV (qLd h (some 7) [x22]) fun x23 =>
  bndV (kNilc [x0]) fun x25 =>
  bndV (kFa 13 [x25]) fun x26 =>
  bndV (qLd h (some 8) [x26]) fun x27 =>
  bndV (kFa 0 [x3]) fun x28 =>
  bndE (dSt h 1 [x28, (.int .i64 (.ofNat (nat_lit 1)))]) h fun _ h =>
  chk1 (sameE (qLd h (some 8) [x26]) x27) (chk1 (sameE (qLd h (some 7) [x22]) x23) (bndV (kFa 7 [x3]) fun x29 =>
  bndE (dSt h 7 [x29, x23]) h fun _ h =>
  chk1 (sameE (qLd h (some 8) [x26]) x27) (bndV (kFa 14 [x3]) fun x30 =>
  bndE (dSt h 8 [x30, x27]) h fun _ h =>
  some ⟨0, [x2, x3], h⟩)))
noncomputable def f203_1 (x0 : V) (x2 : V) (x3 : V) (x34 : V) (h : HT) : Option J := bndV (kFa 6 [x34]) fun x35 =>
  bndV (qLd h (some 7) [x35]) fun x36 =>
  bndV (kNilc [x0]) fun x38 =>
  bndV (kFa 13 [x38]) fun x39 =>
  bndV (qLd h (some 8) [x39]) fun x40 =>
  bndV (kFa 0 [x3]) fun x41 =>
  bndE (dSt h 1 [x41, (.int .i64 (.ofNat (nat_lit 3)))]) h fun _ h =>
  chk1 (sameE (qLd h (some 8) [x39]) x40) (chk1 (sameE (qLd h (some 7) [x35]) x36) (bndV (kFa 7 [x3]) fun x42 =>
  bndE (dSt h 7 [x42, x36]) h fun _ h =>
  chk1 (sameE (qLd h (some 8) [x39]) x40) (bndV (kFa 14 [x3]) fun x43 =>
  bndE (dSt h 8 [x43, x40]) h fun _ h =>
  some ⟨0, [x2, x3], h⟩)))
noncomputable def f203_2 (x0 : V) (x2 : V) (x3 : V) (x16 : V) (x19 : V) (h : HT) : Option J := bndJ (tstv x19 (bndV (kNilc [x0]) fun x21 =>
  (f203_0 x0 x2 x3 x21 h))
  (bndV (kBin .eql [x16, (.int .i64 (.ofNat (nat_lit 1)))]) fun x32 =>
  bndJ (tstv x32 (bndV (kNilc [x0]) fun x34 =>
  (f203_1 x0 x2 x3 x34 h))
  (bndV (kFa 0 [x3]) fun x17 =>
  bndE (dSt h 1 [x17, (.int .i64 (.ofNat (nat_lit 6)))]) h fun _ h =>
  some ⟨0, [x2, x3], h⟩))
  fun j vs h => unc vs fun x2 vs =>
  unc vs fun x3 vs =>
  some ⟨0, [x2, x3], h⟩))
  fun j vs h => unc vs fun x2 vs =>
  unc vs fun x3 vs =>
  bndV (qLd h (some 51) [x3]) fun x44 =>
  bndE (dSt h 51 [x2, x44]) h fun _ h =>
  bndV (qLd h (some 51) [x2]) fun x900000 =>
  ret1 x900000 h
noncomputable def f203_3 (x0 : V) (h : HT) : Option J := bndN (kAlloc [(.int .i64 (.ofNat (nat_lit 0))), (.int .i64 (.ofNat (nat_lit 0))), (.int .i64 (.ofNat (nat_lit 0))), (.int .i64 (.ofNat (nat_lit 0))), (.int .i64 (.ofNat (nat_lit 0))), (.int .i64 (.ofNat (nat_lit 0))), (.int .i64 (.ofNat (nat_lit 0))), (.int .i64 (.ofNat (nat_lit 0))), (.int .i64 (.ofNat (nat_lit 0))), (.int .i64 (.ofNat (nat_lit 0))), (.str (sb [])), (.str (sb [])), (.str (sb [])), (.str (sb [])), (.int .i64 (.ofNat (nat_lit 0))), (.int .i64 (.ofNat (nat_lit 0))), (.int .i64 (.ofNat (nat_lit 0))), (.int .i64 (.ofNat (nat_lit 0))), (.int .i64 (.ofNat (nat_lit 0))), (.int .i64 (.ofNat (nat_lit 0))), (.int .i64 (.ofNat (nat_lit 0))), (.int .i64 (.ofNat (nat_lit 0))), (.int .i64 (.ofNat (nat_lit 0))), (.int .i64 (.ofNat (nat_lit 0))), (.int .i64 (.ofNat (nat_lit 0))), (.int .i64 (.ofNat (nat_lit 0))), (.int .i64 (.ofNat (nat_lit 0))), (.int .i64 (.ofNat (nat_lit 0))), (.int .i64 (.ofNat (nat_lit 0))), (.int .i64 (.ofNat (nat_lit 0))), (.str (sb [])), (.str (sb [])), (.str (sb [])), (.str (sb [])), (.int .i64 (.ofNat (nat_lit 0))), (.int .i64 (.ofNat (nat_lit 0))), (.int .i64 (.ofNat (nat_lit 0))), (.int .i64 (.ofNat (nat_lit 0))), (.int .i64 (.ofNat (nat_lit 0))), (.int .i64 (.ofNat (nat_lit 0))), (.int .i64 (.ofNat (nat_lit 0))), (.int .i64 (.ofNat (nat_lit 0))), (.bool false), (.int .i64 (.ofNat (nat_lit 0))), (.int .i64 (.ofNat (nat_lit 0))), (.int .i64 (.ofNat (nat_lit 0))), (.int .i64 (.ofNat (nat_lit 0))), (.int .i64 (.ofNat (nat_lit 0))), (.int .i64 (.ofNat (nat_lit 0))), (.int .i64 (.ofNat (nat_lit 0))), (.str (sb []))] []) h fun x2 h =>
  bndV (kNilc [x0]) fun x5 =>
  bndV (kFa 0 [x5]) fun x6 =>
  bndV (qLd h (some 2) [x6]) fun x7 =>
  bndV (kNilc [x0]) fun x9 =>
  bndV (kFa 3 [x9]) fun x10 =>
  bndV (qLd h (some 2) [x10]) fun x11 =>
  bndV (kBld [(.int .i64 (.ofNat (nat_lit 0))), (.int .i64 (.ofNat (nat_lit 0))), (.int .i64 (.ofNat (nat_lit 0))), (.int .i64 (.ofNat (nat_lit 0))), (.int .i64 (.ofNat (nat_lit 0))), (.int .i64 (.ofNat (nat_lit 0))), (.int .i64 (.ofNat (nat_lit 0))), (.int .i64 (.ofNat (nat_lit 0))), (.int .i64 (.ofNat (nat_lit 0))), (.int .i64 (.ofNat (nat_lit 0))), (.str (sb [])), (.str (sb [])), (.str (sb [])), (.str (sb [])), (.int .i64 (.ofNat (nat_lit 0))), (.int .i64 (.ofNat (nat_lit 0))), (.int .i64 (.ofNat (nat_lit 0))), (.int .i64 (.ofNat (nat_lit 0))), (.int .i64 (.ofNat (nat_lit 0))), (.int .i64 (.ofNat (nat_lit 0))), (.int .i64 (.ofNat (nat_lit 0))), (.int .i64 (.ofNat (nat_lit 0))), (.int .i64 (.ofNat (nat_lit 0))), (.int .i64 (.ofNat (nat_lit 0))), (.int .i64 (.ofNat (nat_lit 0))), (.int .i64 (.ofNat (nat_lit 0))), (.int .i64 (.ofNat (nat_lit 0))), (.int .i64 (.ofNat (nat_lit 0))), (.int .i64 (.ofNat (nat_lit 0))), (.int .i64 (.ofNat (nat_lit 0))), (.str (sb [])), (.str (sb [])), (.str (sb [])), (.str (sb [])), (.int .i64 (.ofNat (nat_lit 0))), (.int .i64 (.ofNat (nat_lit 0))), (.int .i64 (.ofNat (nat_lit 0))), (.int .i64 (.ofNat (nat_lit 0))), (.int .i64 (.ofNat (nat_lit 0))), (.int .i64 (.ofNat (nat_lit 0))), (.int .i64 (.ofNat (nat_lit 0))), (.int .i64 (.ofNat (nat_lit 0))), (.bool false), (.int .i64 (.ofNat (nat_lit 0))), (.int .i64 (.ofNat (nat_lit 0))), (.int .i64 (.ofNat (nat_lit 0))), (.int .i64 (.ofNat (nat_lit 0))), (.int .i64 (.ofNat (nat_lit 0))), (.int .i64 (.ofNat (nat_lit 0))), (.int .i64 (.ofNat (nat_lit 0))), (.str (sb []))] [(3, 2), (5, 2)] [x7, x11]) fun x12 =>
  bndN (kAlloc [(.int .i64 (.ofNat (nat_lit 0))), (.int .i64 (.ofNat (nat_lit 0))), (.int .i64 (.ofNat (nat_lit 0))), (.int .i64 (.ofNat (nat_lit 0))), (.int .i64 (.ofNat (nat_lit 0))), (.int .i64 (.ofNat (nat_lit 0))), (.int .i64 (.ofNat (nat_lit 0))), (.int .i64 (.ofNat (nat_lit 0))), (.int .i64 (.ofNat (nat_lit 0))), (.int .i64 (.ofNat (nat_lit 0))), (.str (sb [])), (.str (sb [])), (.str (sb [])), (.str (sb [])), (.int .i64 (.ofNat (nat_lit 0))), (.int .i64 (.ofNat (nat_lit 0))), (.int .i64 (.ofNat (nat_lit 0))), (.int .i64 (.ofNat (nat_lit 0))), (.int .i64 (.ofNat (nat_lit 0))), (.int .i64 (.ofNat (nat_lit 0))), (.int .i64 (.ofNat (nat_lit 0))), (.int .i64 (.ofNat (nat_lit 0))), (.int .i64 (.ofNat (nat_lit 0))), (.int .i64 (.ofNat (nat_lit 0))), (.int .i64 (.ofNat (nat_lit 0))), (.int .i64 (.ofNat (nat_lit 0))), (.int .i64 (.ofNat (nat_lit 0))), (.int .i64 (.ofNat (nat_lit 0))), (.int .i64 (.ofNat (nat_lit 0))), (.int .i64 (.ofNat (nat_lit 0))), (.str (sb [])), (.str (sb [])), (.str (sb [])), (.str (sb [])), (.int .i64 (.ofNat (nat_lit 0))), (.int .i64 (.ofNat (nat_lit 0))), (.int .i64 (.ofNat (nat_lit 0))), (.int .i64 (.ofNat (nat_lit 0))), (.int .i64 (.ofNat (nat_lit 0))), (.int .i64 (.ofNat (nat_lit 0))), (.int .i64 (.ofNat (nat_lit 0))), (.int .i64 (.ofNat (nat_lit 0))), (.bool false), (.int .i64 (.ofNat (nat_lit 0))), (.int .i64 (.ofNat (nat_lit 0))), (.int .i64 (.ofNat (nat_lit 0))), (.int .i64 (.ofNat (nat_lit 0))), (.int .i64 (.ofNat (nat_lit 0))), (.int .i64 (.ofNat (nat_lit 0))), (.int .i64 (.ofNat (nat_lit 0))), (.str (sb []))] []) h fun x3 h =>
  bndE (dSt h 51 [x3, x12]) h fun _ h =>
  bndV (kNilc [x0]) fun x14 =>
  bndV (kFa 2 [x14]) fun x15 =>
  bndV (qLd h none [x15]) fun x16 =>
  bndV (kBin .eql [x16, (.int .i64 (.ofNat (nat_lit 0)))]) fun x19 =>
  (f203_2 x0 x2 x3 x16 x19 h)
noncomputable def f203 (vs : List V) (h : HT) : Option J := unc vs fun x0 vs =>
  (f203_3 x0 h)
def a203 : List Ann := [.no, .join [(.normal, [2, 3])], .join [(.normal, [2, 3])]]
theorem e203 : f203 = evFun Tryz.prog 203 1 a203 t203 := by kernel_rfl
theorem o203 : FnOk Tryz.prog 203 f203 := .of hmO (show enters Tryz.prog 203 = true by kernel_rfl) e203 (.nil)

/- (*concord/core.Core).begin -/
noncomputable def l123 : List (Nat × (List V → HT → Option J)) := [(201, f201), (202, f202), (203, f203)]
noncomputable def t123 : Fns := tab l123

noncomputable def f123 (vs : List V) (h : HT) : Option J := unc vs fun x0 vs =>
  unc vs fun x1 vs =>
  bndC (f201 [x0, x1] h) fun x6 h =>
  bndV (kNilc [x1]) fun x11 =>
  bndV (kFa 21 [x11]) fun x12 =>
  bndV (qLd h (some 7) [x12]) fun x13 =>
  bndC (f203 [x1] h) fun x9 h =>
  chk1 (sameE (qLd h (some 7) [x12]) x13) (bndC (f202 [x0, x9, x13] h) fun x14 h =>
  ret1 (.tuple []) h)
def a123 : List Ann := []
theorem e123 : f123 = evFun Tryz.prog 123 2 a123 t123 := by kernel_rfl
theorem o123 : FnOk Tryz.prog 123 f123 := .of hmO (show enters Tryz.prog 123 = true by kernel_rfl) e123 (.cons o201 (.cons o202 (.cons o203 (.nil))))

/- (*concord/core.Core).Propose -/
noncomputable def l42 : List (Nat × (List V → HT → Option J)) := [(40, f40), (99, f99), (120, f120), (121, f121), (122, f122), (123, f123)]
noncomputable def t42 : Fns := tab l42
noncomputable def f42_0 (x0 : V) (x3 : V) (x4 : V) (x6 : V) (x7 : V) (h : HT) : Option J := bndV (qLd h (some 2) [x6]) fun x58 =>
  bndV (qLd h (some 7) [x3]) fun x59 =>
  bndV (qLd h (some 8) [x7]) fun x60 =>
  bndV (kBld [(.int .i64 (.ofNat (nat_lit 0))), (.int .i64 (.ofNat (nat_lit 0))), (.int .i64 (.ofNat (nat_lit 0))), (.int .i64 (.ofNat (nat_lit 0))), (.int .i64 (.ofNat (nat_lit 0))), (.int .i64 (.ofNat (nat_lit 0))), (.int .i64 (.ofNat (nat_lit 0))), (.int .i64 (.ofNat (nat_lit 0))), (.str (sb [])), (.str (sb [])), (.str (sb [])), (.str (sb [])), (.int .i64 (.ofNat (nat_lit 0))), (.int .i64 (.ofNat (nat_lit 0))), (.int .i64 (.ofNat (nat_lit 0))), (.int .i64 (.ofNat (nat_lit 0))), (.int .i64 (.ofNat (nat_lit 0))), (.int .i64 (.ofNat (nat_lit 0))), (.int .i64 (.ofNat (nat_lit 0))), (.int .i64 (.ofNat (nat_lit 0))), (.bool false)] [(0, 1), (5, 7), (12, 8), (20, 1)] [(.int .i64 (.ofNat (nat_lit 1))), x59, x60, (.bool true)]) fun x61 =>
  bndC (f122 [x0, x58, x61] h) fun x62 h =>
  bndV (qLd h (some 2) [x6]) fun x64 =>
  bndV (qLd h (some 7) [x3]) fun x65 =>
  bndV (qLd h (some 8) [x7]) fun x66 =>
  bndV (kBld [(.int .i64 (.ofNat (nat_lit 0))), (.int .i64 (.ofNat (nat_lit 0))), (.int .i64 (.ofNat (nat_lit 0))), (.int .i64 (.ofNat (nat_lit 0))), (.int .i64 (.ofNat (nat_lit 0))), (.bool false), (.int .i64 (.ofNat (nat_lit 0))), (.int .i64 (.ofNat (nat_lit 0))), (.int .i64 (.ofNat (nat_lit 0))), (.str (sb [])), (.str (sb [])), (.str (sb [])), (.str (sb [])), (.int .i64 (.ofNat (nat_lit 0))), (.int .i64 (.ofNat (nat_lit 0))), (.int .i64 (.ofNat (nat_lit 0))), (.int .i64 (.ofNat (nat_lit 0))), (.int .i64 (.ofNat (nat_lit 0))), (.int .i64 (.ofNat (nat_lit 0))), (.int .i64 (.ofNat (nat_lit 0))), (.int .i64 (.ofNat (nat_lit 0))), (.int .i64 (.ofNat (nat_lit 0))), (.int .i64 (.ofNat (nat_lit 0))), (.int .i64 (.ofNat (nat_lit 0))), (.int .i64 (.ofNat (nat_lit 0))), (.int .i64 (.ofNat (nat_lit 0))), (.int .i64 (.ofNat (nat_lit 0))), (.int .i64 (.ofNat (nat_lit 0))), (.slice none 0 true 0), (.slice none 0 true 0), (.int .i64 (.ofNat (nat_lit 0))), (.int .i64 (.ofNat (nat_lit 0)))] [(0, 2), (2, 1), (5, 1), (6, 7), (13, 8)] [x64, (.int .i64 (.ofNat (nat_lit 0))), (.bool true), x65, x66]) fun x67 =>
  bndN (kBox [x67]) h fun x68 h =>
  bndC (f123 [x0, x68] h) fun x69 h =>
  bndV (qLd h (some 2) [x6]) fun x70 =>
  bndE (dSt h 2 [x4, x70]) h fun _ h =>
  bndV (qLd h (some 2) [x4]) fun x900000 =>
  ret1 (.tuple [x900000, (.bool true)]) h
noncomputable def f42_1 (x0 : V) (x3 : V) (x4 : V) (x6 : V) (x48 : V) (h : HT) : Option J := bndV (qLd h none [x48]) fun x49 =>
  bndV (qLd h (some 2) [x6]) fun x50 =>
  bndV (qLd h (some 7) [x3]) fun x51 =>
  bndN (kAlloc [(.int .i64 (.ofNat (nat_lit 0))), (.int .i64 (.ofNat (nat_lit 0))), (.int .i64 (.ofNat (nat_lit 0))), (.int .i64 (.ofNat (nat_lit 0))), (.int .i64 (.ofNat (nat_lit 0))), (.int .i64 (.ofNat (nat_lit 0))), (.int .i64 (.ofNat (nat_lit 0))), (.int .i64 (.ofNat (nat_lit 0)))] []) h fun x7 h =>
  bndC (f121 [x49, x50, x51] h) fun x52 h =>
  bndE (dSt h 8 [x7, x52]) h fun _ h =>
  bndV (qLd h (some 8) [x7]) fun x53 =>
  bndC (f99 [x53] h) fun x54 h =>
  bndV (kUn .not [x54]) fun x55 =>
  tstv x55 (bndV (kBld [(.int .i64 (.ofNat (nat_lit 0))), (.int .i64 (.ofNat (nat_lit 0)))] [] []) fun x56 =>
  bndE (dSt h 2 [x4, x56]) h fun _ h =>
  bndV (qLd h (some 2) [x4]) fun x900000 =>
  ret1 (.tuple [x900000, (.bool false)]) h)
  ((f42_0 x0 x3 x4 x6 x7 h))
noncomputable def f42_2 (x0 : V) (x3 : V) (x4 : V) (x6 : V) (x36 : V) (h : HT) : Option J := bndC (gsel x36 false (retV (kMov [x0]) h) h) fun x38 h =>
  bndC (gsel x36 false (retV (kNilc [x38]) h) h) fun x39 h =>
  bndC (gsel x36 false (retV (kFa 4 [x39]) h) h) fun x40 h =>
  bndC (gsel x36 false (retV (qLd h none [x40]) h) h) fun x41 h =>
  bndC (gsel x36 false (retV (kLenS [x41]) h) h) fun x42 h =>
  bndC (gsel x36 false (retV (kBin .geq [x42, (.int .i64 (.ofNat (nat_lit 256)))]) h) h) fun x43 h =>
  bndV (kPick [x36, (.bool true), x43]) fun x44 =>
  tstv x44 (bndV (kBld [(.int .i64 (.ofNat (nat_lit 0))), (.int .i64 (.ofNat (nat_lit 0)))] [] []) fun x45 =>
  bndE (dSt h 2 [x4, x45]) h fun _ h =>
  bndV (qLd h (some 2) [x4]) fun x900000 =>
  ret1 (.tuple [x900000, (.bool false)]) h)
  (bndV (kNilc [x0]) fun x47 =>
  bndV (kFa 3 [x47]) fun x48 =>
  (f42_1 x0 x3 x4 x6 x48 h))
noncomputable def f42_3 (x0 : V) (x3 : V) (x4 : V) (x6 : V) (x11 : V) (x21 : V) (h : HT) : Option J := bndV (kBin .add [x21, (.int .i64 (.ofNat (nat_lit 1)))]) fun x22 =>
  bndV (kBld [(.int .i64 (.ofNat (nat_lit 0))), (.int .i64 (.ofNat (nat_lit 0)))] [(0, 1), (1, 1)] [x11, x22]) fun x23 =>
  bndE (dSt h 2 [x6, x23]) h fun _ h =>
  bndV (qLd h (some 7) [x3]) fun x24 =>
  bndC (f40 [x24] h) fun x25 h =>
  bndV (kUn .not [x25]) fun x26 =>
  bndC (gsel x26 false (retV (kFa 0 [x3]) h) h) fun x28 h =>
  bndC (gsel x26 false (retV (qLd h none [x28]) h) h) fun x29 h =>
  bndC (gsel x26 false (retV (kBin .eql [x29, (.int .i64 (.ofNat (nat_lit 0)))]) h) h) fun x30 h =>
  bndV (kPick [x26, (.bool true), x30]) fun x31 =>
  bndC (gsel x31 false (retV (kFa 1 [x6]) h) h) fun x33 h =>
  bndC (gsel x31 false (retV (qLd h none [x33]) h) h) fun x34 h =>
  bndC (gsel x31 false (retV (kBin .gtr [x34, (.int .i64 (.ofNat (nat_lit 1073741824)))]) h) h) fun x35 h =>
  bndV (kPick [x31, (.bool true), x35]) fun x36 =>
  (f42_2 x0 x3 x4 x6 x36 h)
noncomputable def f42_4 (x0 : V) (x3 : V) (x4 : V) (h : HT) : Option J := bndV (kNilc [x0]) fun x9 =>
  bndV (kFa 1 [x9]) fun x10 =>
  bndV (qLd h none [x10]) fun x11 =>
  bndV (kNilc [x0]) fun x13 =>
  bndV (kFa 2 [x13]) fun x14 =>
  bndV (qLd h none [x14]) fun x15 =>
  bndV (kNilc [x0]) fun x18 =>
  bndV (kFa 1 [x18]) fun x19 =>
  bndV (qLd h none [x19]) fun x20 =>
  bndN (kAlloc [(.int .i64 (.ofNat (nat_lit 0))), (.int .i64 (.ofNat (nat_lit 0)))] []) h fun x6 h =>
  bndC (f120 [x15] h) fun x16 h =>
  chk1 (sameE (qLd h none [x19]) x20) (chk1 (sameE (qLd h none [x10]) x11) (bndV (kIxA 7 1 false [x16, x20]) fun x21 =>
  (f42_3 x0 x3 x4 x6 x11 x21 h)))
noncomputable def f42 (vs : List V) (h : HT) : Option J := unc vs fun x0 vs =>
  unc vs fun x1 vs =>
  bndN (kBox [x1]) h fun x3 h =>
  bndN (kAlloc [(.int .i64 (.ofNat (nat_lit 0))), (.int .i64 (.ofNat (nat_lit 0)))] []) h fun x4 h =>
  (f42_4 x0 x3 x4 h)
def a42 : List Ann := [.no, .no]
theorem e42 : f42 = evFun Tryz.prog 42 2 a42 t42 := by kernel_rfl
theorem o42 : FnOk Tryz.prog 42 f42 := .of hmO (show enters Tryz.prog 42 = true by kernel_rfl) e42 (.cons o40 (.cons o99 (.cons o120 (.cons o121 (.cons o122 (.cons o123 (.nil)))))))

/- slices.Index[[]concord/api.Inst,concord/api.Inst] -/
noncomputable def l124 : List (Nat × (List V → HT → Option J)) := []
noncomputable def t124 : Fns := tab l124
noncomputable def f124_0 (rc : List V → HT → Option J) (vs : List V) (h : HT) : Option J := unc vs fun x0 vs =>
  unc vs fun x3 vs =>
  unc vs fun x7 vs =>
  unc vs fun x8 vs =>
  bndV (kBin .lss [x8, x7]) fun x9 =>
  tstv x9 (bndV (qLd h (some 2) [x3]) fun x11 =>
  bndV (kIaS 2 [x0, x8]) fun x14 =>
  bndV (qLd h (some 2) [x14]) fun x15 =>
  bndV (kEqF false [.i, .i] [x11, x15]) fun x16 =>
  tstv x16 (some ⟨1, [x8], h⟩)
  (bndV (kBin .add [x8, (.int .i64 (.ofNat (nat_lit 1)))]) fun x18 =>
  rc [x0, x3, x7, x18] h))
  (some ⟨0, [], h⟩)
noncomputable def f124 (vs : List V) (h : HT) : Option J := unc vs fun x0 vs =>
  unc vs fun x1 vs =>
  bndN (kBox [x1]) h fun x3 h =>
  bndV (kLenS [x0]) fun x7 =>
  bndJ (loopF (fun rc vs h => (f124_0 rc vs h)) 1000000 [x0, x3, x7, (.int .i64 (.ofNat (nat_lit 0)))] h)
  fun j vs h => nsw j (ret1 (.int .i64 (.negSucc (nat_lit 0))) h)
  fun j => unc vs fun x4 vs =>
  ret1 x4 h
def a124 : List Ann := [.no, .loop [0, 3, 7, 8] [((.exit 0), []), (.ret, [4])], .no, .no, .no]
theorem e124 : f124 = evFun Tryz.prog 124 2 a124 t124 := by kernel_rfl
theorem o124 : FnOk Tryz.prog 124 f124 := .of hmO (show enters Tryz.prog 124 = true by kernel_rfl) e124 (.nil)

/- slices.Contains[[]concord/api.Inst,concord/api.Inst] -/
noncomputable def l43 : List (Nat × (List V → HT → Option J)) := [(124, f124)]
noncomputable def t43 : Fns := tab l43

noncomputable def f43 (vs : List V) (h : HT) : Option J := unc vs fun x0 vs =>
  unc vs fun x1 vs =>
  bndN (kBox [x1]) h fun x3 h =>
  bndV (qLd h (some 2) [x3]) fun x6 =>
  bndC (f124 [x0, x6] h) fun x7 h =>
  bndV (kBin .geq [x7, (.int .i64 (.ofNat (nat_lit 0)))]) fun x8 =>
  ret1 x8 h
def a43 : List Ann := []
theorem e43 : f43 = evFun Tryz.prog 43 2 a43 t43 := by kernel_rfl
theorem o43 : FnOk Tryz.prog 43 f43 := .of hmO (show enters Tryz.prog 43 = true by kernel_rfl) e43 (.cons o124 (.nil))

/- (*concord/node.Node).Ask -/
noncomputable def l10 : List (Nat × (List V → HT → Option J)) := [(39, f39), (40, f40), (41, f41), (42, f42), (43, f43)]
noncomputable def t10 : Fns := tab l10
noncomputable def f10_0 (x0 : V) (x3 : V) (x6 : V) (x49 : V) (h : HT) : Option J := tstv x49 (bndV (kNilc [x0]) fun x52 =>
  bndV (kFa 4 [x52]) fun x53 =>
  bndV (qLd h none [x53]) fun x54 =>
  bndV (qLd h (some 7) [x3]) fun x55 =>
  bndN (kAlloc [(.int .i64 (.ofNat (nat_lit 0))), (.int .i64 (.ofNat (nat_lit 0)))] []) h fun x7 h =>
  bndC (f42 [x54, x55] h) fun x56 h =>
  bndV (kExt 0 [x56]) fun x57 =>
  bndV (kExt 1 [x56]) fun x58 =>
  bndE (dSt h 2 [x7, x57]) h fun _ h =>
  bndV (kUn .not [x58]) fun x60 =>
  tstv x60 (some ⟨0, [(.int .i64 (.ofNat (nat_lit 7)))], h⟩)
  (some ⟨1, [x0, x6], h⟩))
  (some ⟨1, [x0, x6], h⟩)
noncomputable def f10_1 (x0 : V) (x6 : V) (x67 : V) (h : HT) : Option J := bndJ (tstv x67 (bndV (kNilc [x0]) fun x70 =>
  bndV (kFa 71 [x70]) fun x71 =>
  bndV (qLd h none [x71]) fun x72 =>
  bndV (qLd h (some 2) [x6]) fun x73 =>
  bndN (kBsl 2 1 [(.int .i64 (.ofNat (nat_lit 0))), (.int .i64 (.ofNat (nat_lit 0)))] [(0, 2)] [x73]) h fun x74 h =>
  bndE (dApp h 2 16 [x72, x74]) h fun x75 h =>
  bndV (kNilc [x0]) fun x76 =>
  bndV (kFa 71 [x76]) fun x77 =>
  bndE (dSt h 1 [x77, x75]) h fun _ h =>
  some ⟨0, [x0], h⟩)
  (some ⟨0, [x0], h⟩))
  fun j vs h => unc vs fun x0 vs =>
  bndC (f39 [x0] h) fun x79 h =>
  ret1 (.int .i64 (.ofNat (nat_lit 0))) h
noncomputable def f10_2 (x0 : V) (x3 : V) (x6 : V) (x43 : V) (x48 : V) (h : HT) : Option J := bndV (kPick [x43, x48, (.bool false)]) fun x49 =>
  bndJ ((f10_0 x0 x3 x6 x49 h))
  fun j vs h => nsw j (unc vs fun x4 vs =>
  ret1 x4 h)
  fun j => unc vs fun x0 vs =>
  unc vs fun x6 vs =>
  bndV (kNilc [x0]) fun x62 =>
  bndV (kFa 71 [x62]) fun x63 =>
  bndV (qLd h none [x63]) fun x64 =>
  bndV (qLd h (some 2) [x6]) fun x65 =>
  bndC (f43 [x64, x65] h) fun x66 h =>
  bndV (kUn .not [x66]) fun x67 =>
  (f10_1 x0 x6 x67 h)
noncomputable def f10_3 (x0 : V) (x3 : V) (x30 : V) (h : HT) : Option J := bndV (kFa 1 [x3]) fun x35 =>
  bndV (qLd h none [x35]) fun x36 =>
  bndV (kFa 2 [x3]) fun x37 =>
  bndV (qLd h none [x37]) fun x38 =>
  bndV (kBld [(.int .i64 (.ofNat (nat_lit 0))), (.int .i64 (.ofNat (nat_lit 0)))] [(0, 1), (1, 1)] [x36, x38]) fun x39 =>
  bndN (kAlloc [(.int .i64 (.ofNat (nat_lit 0))), (.int .i64 (.ofNat (nat_lit 0)))] []) h fun x6 h =>
  bndE (dSt h 2 [x6, x39]) h fun _ h =>
  bndV (kFa 2 [x3]) fun x40 =>
  bndV (qLd h none [x40]) fun x41 =>
  bndV (kBin .gtr [x41, x30]) fun x43 =>
  bndC (gsel x43 true (retV (kMov [x0]) h) h) fun x45 h =>
  bndC (gsel x43 true (retV (qLd h (some 2) [x6]) h) h) fun x46 h =>
  bndC (gsel x43 true (f41 [x45, x46] h) h) fun x47 h =>
  bndC (gsel x43 true (retV (kUn .not [x47]) h) h) fun x48 h =>
  (f10_2 x0 x3 x6 x43 x48 h)
noncomputable def f10_4 (x0 : V) (x3 : V) (h : HT) : Option J := bndV (kFa 1 [x3]) fun x22 =>
  bndV (qLd h none [x22]) fun x23 =>
  bndV (kBin .sub [x23, (.int .i64 (.ofNat (nat_lit 1)))]) fun x24 =>
  bndV (kNilc [x0]) fun x25 =>
  bndV (kFa 6 [x25]) fun x26 =>
  bndV (kFa 1 [x26]) fun x27 =>
  bndV (kIaA 8 6 [x27, x24]) fun x28 =>
  bndV (kFa 0 [x28]) fun x29 =>
  bndV (qLd h none [x29]) fun x30 =>
  bndV (kFa 2 [x3]) fun x31 =>
  bndV (qLd h none [x31]) fun x32 =>
  bndV (kBin .lss [x32, x30]) fun x34 =>
  tstv x34 (ret1 (.int .i64 (.ofNat (nat_lit 9))) h)
  ((f10_3 x0 x3 x30 h))
noncomputable def f10_5 (x0 : V) (x3 : V) (h : HT) : Option J := bndV (kNilc [x0]) fun x10 =>
  bndV (kFa 74 [x10]) fun x11 =>
  bndV (qLd h none [x11]) fun x12 =>
  tstv x12 (ret1 (.int .i64 (.ofNat (nat_lit 10))) h)
  (bndV (qLd h (some 7) [x3]) fun x13 =>
  bndC (f40 [x13] h) fun x14 h =>
  bndV (kUn .not [x14]) fun x15 =>
  bndC (gsel x15 false (retV (kFa 0 [x3]) h) h) fun x17 h =>
  bndC (gsel x15 false (retV (qLd h none [x17]) h) h) fun x18 h =>
  bndC (gsel x15 false (retV (kBin .eql [x18, (.int .i64 (.ofNat (nat_lit 0)))]) h) h) fun x19 h =>
  bndV (kPick [x15, (.bool true), x19]) fun x20 =>
  tstv x20 (ret1 (.int .i64 (.ofNat (nat_lit 1))) h)
  ((f10_4 x0 x3 h)))
noncomputable def f10 (vs : List V) (h : HT) : Option J := unc vs fun x0 vs =>
  unc vs fun x1 vs =>
  bndN (kBox [x1]) h fun x3 h =>
  (f10_5 x0 x3 h)
def a10 : List Ann := [.no, .no, .no, .join [(.ret, [4]), (.normal, [0, 6])], .no, .join [(.normal, [0])]]
theorem e10 : f10 = evFun Tryz.prog 10 2 a10 t10 := by kernel_rfl
theorem o10 : FnOk Tryz.prog 10 f10 := .of hmO (show enters Tryz.prog 10 = true by kernel_rfl) e10 (.cons o39 (.cons o40 (.cons o41 (.cons o42 (.cons o43 (.nil))))))

/- (*concord/cluster.Cluster).Node -/
noncomputable def l58 : List (Nat × (List V → HT → Option J)) := []
noncomputable def t58 : Fns := tab l58
noncomputable def f58_0 (x0 : V) (x1 : V) (x6 : V) (h : HT) : Option J := bndC (gsel x6 false (retV (kMov [x1]) h) h) fun x8 h =>
  bndC (gsel x6 false (retV (kMov [x0]) h) h) fun x9 h =>
  bndC (gsel x6 false (retV (kNilc [x9]) h) h) fun x10 h =>
  bndC (gsel x6 false (retV (kFa 0 [x10]) h) h) fun x11 h =>
  bndC (gsel x6 false (retV (qLd h none [x11]) h) h) fun x12 h =>
  bndC (gsel x6 false (retV (kBin .geq [x8, x12]) h) h) fun x13 h =>
  bndV (kPick [x6, (.bool true), x13]) fun x14 =>
  tstv x14 (ret1 (.ptr none) h)
  (bndV (kNilc [x0]) fun x16 =>
  bndV (kFa 2 [x16]) fun x17 =>
  bndV (qLd h none [x17]) fun x18 =>
  bndV (kIaS 1 [x18, x1]) fun x20 =>
  bndV (qLd h none [x20]) fun x21 =>
  ret1 x21 h)
noncomputable def f58 (vs : List V) (h : HT) : Option J := unc vs fun x0 vs =>
  unc vs fun x1 vs =>
  bndV (kBin .lss [x1, (.int .i64 (.ofNat (nat_lit 0)))]) fun x6 =>
  (f58_0 x0 x1 x6 h)
def a58 : List Ann := [.no]
theorem e58 : f58 = evFun Tryz.prog 58 2 a58 t58 := by kernel_rfl
theorem o58 : FnOk Tryz.prog 58 f58 := .of hmO (show enters Tryz.prog 58 = true by kernel_rfl) e58 (.nil)

/- (*concord/cluster.Cluster).comes -/
noncomputable def l143 : List (Nat × (List V → HT → Option J)) := [(10, f10), (53, f53), (58, f58)]
noncomputable def t143 : Fns := tab l143

noncomputable def f143 (vs : List V) (h : HT) : Option J := unc vs fun x0 vs =>
  unc vs fun x1 vs =>
  unc vs fun x2 vs =>
  bndN (kBox [x1]) h fun x4 h =>
  bndC (f58 [x0, x2] h) fun x9 h =>
  bndV (kEqN true [x9, (.ptr none)]) fun x11 =>
  tstv x11 (bndV (qLd h (some 7) [x4]) fun x13 =>
  bndC (f10 [x9, x13] h) fun x14 h =>
  bndC (f53 [x0, x2] h) fun x17 h =>
  ret1 (.tuple []) h)
  (ret1 (.tuple []) h)
def a143 : List Ann := [.no]
theorem e143 : f143 = evFun Tryz.prog 143 3 a143 t143 := by kernel_rfl
theorem o143 : FnOk Tryz.prog 143 f143 := .of hmO (show enters Tryz.prog 143 = true by kernel_rfl) e143 (.cons o10 (.cons o53 (.cons o58 (.nil))))

/- (*concord/cluster.Cluster).call -/
noncomputable def l54 : List (Nat × (List V → HT → Option J)) := [(64, f64), (142, f142), (143, f143)]
noncomputable def t54 : Fns := tab l54
noncomputable def f54_0 (x0 : V) (x3 : V) (x5 : V) (x56 : V) (h : HT) : Option J := bndV (qLd h none [x56]) fun x57 =>
  bndV (kFa 3 [x3]) fun x58 =>
  bndV (qLd h none [x58]) fun x59 =>
  bndV (qLd h (some 7) [x5]) fun x60 =>
  bndV (kBld [(.int .i64 (.ofNat (nat_lit 0))), (.int .i64 (.ofNat (nat_lit 0))), (.int .i64 (.ofNat (nat_lit 0))), (.int .i64 (.ofNat (nat_lit 0))), (.int .i64 (.ofNat (nat_lit 0))), (.str (sb [])), (.str (sb [])), (.str (sb [])), (.str (sb [])), (.int .i64 (.ofNat (nat_lit 0))), (.bool false), (.str (sb [])), (.int .i64 (.ofNat (nat_lit 0))), (.slice none 0 true 0)] [(0, 1), (1, 1), (2, 7)] [(.int .i64 (.ofNat (nat_lit 1))), x59, x60]) fun x61 =>
  bndN (kBsl 14 1 [(.int .i64 (.ofNat (nat_lit 0))), (.int .i64 (.ofNat (nat_lit 0))), (.int .i64 (.ofNat (nat_lit 0))), (.int .i64 (.ofNat (nat_lit 0))), (.int .i64 (.ofNat (nat_lit 0))), (.str (sb [])), (.str (sb [])), (.str (sb [])), (.str (sb [])), (.int .i64 (.ofNat (nat_lit 0))), (.bool false), (.str (sb [])), (.int .i64 (.ofNat (nat_lit 0))), (.slice none 0 true 0)] [(0, 14)] [x61]) h fun x62 h =>
  bndE (dApp h 14 168 [x57, x62]) h fun x63 h =>
  bndV (kNilc [x0]) fun x64 =>
  bndV (kFa 6 [x64]) fun x65 =>
  bndE (dSt h 1 [x65, x63]) h fun _ h =>
  bndV (qLd h (some 7) [x5]) fun x67 =>
  bndV (kFa 1 [x3]) fun x68 =>
  bndV (qLd h none [x68]) fun x69 =>
  bndC (f143 [x0, x67, x69] h) fun x70 h =>
  ret1 (.bool true) h
noncomputable def f54_1 (x0 : V) (x3 : V) (x5 : V) (x41 : V) (h : HT) : Option J := bndV (kUn .not [x41]) fun x43 =>
  tstv x43 (ret1 (.bool false) h)
  (bndV (kNilc [x0]) fun x45 =>
  bndV (kFa 4 [x45]) fun x46 =>
  bndV (qLd h none [x46]) fun x47 =>
  bndV (kFa 3 [x3]) fun x48 =>
  bndV (qLd h none [x48]) fun x49 =>
  bndV (kBin .sub [x49, (.int .i64 (.ofNat (nat_lit 1)))]) fun x50 =>
  bndV (qLd h (some 7) [x5]) fun x51 =>
  bndV (kIaS 7 [x47, x50]) fun x52 =>
  bndE (dSt h 7 [x52, x51]) h fun _ h =>
  bndV (kNilc [x0]) fun x55 =>
  bndV (kFa 6 [x55]) fun x56 =>
  (f54_0 x0 x3 x5 x56 h))
noncomputable def f54_2 (x0 : V) (x3 : V) (x29 : V) (h : HT) : Option J := bndV (kFa 3 [x3]) fun x30 =>
  bndV (qLd h none [x30]) fun x31 =>
  bndV (kBin .sub [x31, (.int .i64 (.ofNat (nat_lit 1)))]) fun x32 =>
  bndV (kIaS 1 [x29, x32]) fun x33 =>
  bndV (qLd h none [x33]) fun x34 =>
  bndV (kFa 4 [x3]) fun x35 =>
  bndV (qLd h (some 7) [x35]) fun x36 =>
  bndV (kFa 1 [x3]) fun x37 =>
  bndV (qLd h none [x37]) fun x38 =>
  bndN (kAlloc [(.int .i64 (.ofNat (nat_lit 0))), (.int .i64 (.ofNat (nat_lit 0))), (.int .i64 (.ofNat (nat_lit 0))), (.str (sb [])), (.str (sb [])), (.str (sb [])), (.str (sb []))] []) h fun x5 h =>
  bndC (f142 [x34, x36, x38] h) fun x39 h =>
  bndV (kExt 0 [x39]) fun x40 =>
  bndV (kExt 1 [x39]) fun x41 =>
  bndE (dSt h 7 [x5, x40]) h fun _ h =>
  (f54_1 x0 x3 x5 x41 h)
noncomputable def f54_3 (x0 : V) (x3 : V) (x10 : V) (x14 : V) (h : HT) : Option J := bndV (kPick [x10, (.bool true), x14]) fun x15 =>
  bndC (gsel x15 false (retV (kFa 1 [x3]) h) h) fun x17 h =>
  bndC (gsel x15 false (retV (qLd h none [x17]) h) h) fun x18 h =>
  bndC (gsel x15 false (retV (kMov [x0]) h) h) fun x19 h =>
  bndC (gsel x15 false (retV (kNilc [x19]) h) h) fun x20 h =>
  bndC (gsel x15 false (retV (kFa 0 [x20]) h) h) fun x21 h =>
  bndC (gsel x15 false (retV (qLd h none [x21]) h) h) fun x22 h =>
  bndC (gsel x15 false (retV (kBin .geq [x18, x22]) h) h) fun x23 h =>
  bndV (kPick [x15, (.bool true), x23]) fun x24 =>
  tstv x24 (ret1 (.bool false) h)
  (bndV (kNilc [x0]) fun x27 =>
  bndV (kFa 3 [x27]) fun x28 =>
  bndV (qLd h none [x28]) fun x29 =>
  (f54_2 x0 x3 x29 h))
noncomputable def f54 (vs : List V) (h : HT) : Option J := unc vs fun x0 vs =>
  unc vs fun x1 vs =>
  bndN (kBox [x1]) h fun x3 h =>
  bndV (kFa 3 [x3]) fun x7 =>
  bndV (qLd h none [x7]) fun x8 =>
  bndC (f64 [x8] h) fun x9 h =>
  bndV (kUn .not [x9]) fun x10 =>
  bndC (gsel x10 false (retV (kFa 1 [x3]) h) h) fun x12 h =>
  bndC (gsel x10 false (retV (qLd h none [x12]) h) h) fun x13 h =>
  bndC (gsel x10 false (retV (kBin .lss [x13, (.int .i64 (.ofNat (nat_lit 0)))]) h) h) fun x14 h =>
  (f54_3 x0 x3 x10 x14 h)
def a54 : List Ann := [.no, .no]
theorem e54 : f54 = evFun Tryz.prog 54 2 a54 t54 := by kernel_rfl
theorem o54 : FnOk Tryz.prog 54 f54 := .of hmO (show enters Tryz.prog 54 = true by kernel_rfl) e54 (.cons o64 (.cons o142 (.cons o143 (.nil))))

/- concord/letter.named -/
noncomputable def l125 : List (Nat × (List V → HT → Option J)) := []
noncomputable def t125 : Fns := tab l125
noncomputable def f125_0 (x2 : V) (x4 : V) (x23 : V) (h : HT) : Option J := tstv x23 (bndV (kBld [(.bool false), (.bool false), (.bool false), (.bool false), (.bool false), (.bool false), (.bool false)] [(5, 1)] [(.bool true)]) fun x26 =>
  bndE (dSt h 7 [x2, x26]) h fun _ h =>
  bndV (qLd h (some 7) [x2]) fun x900000 =>
  ret1 (.tuple [x900000, (.bool true)]) h)
  (bndV (kBin .eql [x4, (.int .i64 (.ofNat (nat_lit 10)))]) fun x28 =>
  tstv x28 (bndV (kBld [(.bool false), (.bool false), (.bool false), (.bool false), (.bool false), (.bool false), (.bool false)] [(6, 1)] [(.bool true)]) fun x29 =>
  bndE (dSt h 7 [x2, x29]) h fun _ h =>
  bndV (qLd h (some 7) [x2]) fun x900000 =>
  ret1 (.tuple [x900000, (.bool true)]) h)
  (bndV (kBld [(.bool false), (.bool false), (.bool false), (.bool false), (.bool false), (.bool false), (.bool false)] [] []) fun x30 =>
  bndE (dSt h 7 [x2, x30]) h fun _ h =>
  bndV (qLd h (some 7) [x2]) fun x900000 =>
  ret1 (.tuple [x900000, (.bool false)]) h))
noncomputable def f125_1 (x2 : V) (x4 : V) (x21 : V) (h : HT) : Option J := tstv x21 (bndV (kBld [(.bool false), (.bool false), (.bool false), (.bool false), (.bool false), (.bool false), (.bool false)] [(0, 1), (1, 1), (4, 1)] [(.bool true), (.bool true), (.bool true)]) fun x22 =>
  bndE (dSt h 7 [x2, x22]) h fun _ h =>
  bndV (qLd h (some 7) [x2]) fun x900000 =>
  ret1 (.tuple [x900000, (.bool true)]) h)
  (bndV (kBin .eql [x4, (.int .i64 (.ofNat (nat_lit 9)))]) fun x24 =>
  bndJ (tstv x24 (some ⟨0, [x2, x4, x24], h⟩)
  (bndV (kBin .eql [x4, (.int .i64 (.ofNat (nat_lit 11)))]) fun x25 =>
  some ⟨0, [x2, x4, x25], h⟩))
  fun j vs h => unc vs fun x2 vs =>
  unc vs fun x4 vs =>
  unc vs fun x23 vs =>
  (f125_0 x2 x4 x23 h))
noncomputable def f125_2 (x2 : V) (vs : List V) (h : HT) : Option J := unc vs fun x4 vs =>
  unc vs fun x12 vs =>
  tstv x12 (bndV (kBld [(.bool false), (.bool false), (.bool false), (.bool false), (.bool false), (.bool false), (.bool false)] [(0, 1), (1, 1)] [(.bool true), (.bool true)]) fun x16 =>
  bndE (dSt h 7 [x2, x16]) h fun _ h =>
  bndV (qLd h (some 7) [x2]) fun x900000 =>
  ret1 (.tuple [x900000, (.bool true)]) h)
  (bndV (kBin .eql [x4, (.int .i64 (.ofNat (nat_lit 5)))]) fun x18 =>
  tstv x18 (bndV (kBld [(.bool false), (.bool false), (.bool false), (.bool false), (.bool false), (.bool false), (.bool false)] [(0, 1), (2, 1), (3, 1)] [(.bool true), (.bool true), (.bool true)]) fun x19 =>
  bndE (dSt h 7 [x2, x19]) h fun _ h =>
  bndV (qLd h (some 7) [x2]) fun x900000 =>
  ret1 (.tuple [x900000, (.bool true)]) h)
  (bndV (kBin .eql [x4, (.int .i64 (.ofNat (nat_lit 7)))]) fun x21 =>
  (f125_1 x2 x4 x21 h)))
noncomputable def f125_3 (x2 : V) (x4 : V) (x13 : V) (h : HT) : Option J := bndJ (tstv x13 (some ⟨0, [x2, x4, x13], h⟩)
  (bndV (kBin .eql [x4, (.int .i64 (.ofNat (nat_lit 6)))]) fun x14 =>
  bndJ (tstv x14 (some ⟨0, [x2, x4, x14], h⟩)
  (bndV (kBin .eql [x4, (.int .i64 (.ofNat (nat_lit 8)))]) fun x15 =>
  some ⟨0, [x2, x4, x15], h⟩))
  fun j vs h => unc vs fun x2 vs =>
  unc vs fun x4 vs =>
  unc vs fun x12 vs =>
  some ⟨0, [x2, x4, x12], h⟩))
  fun j vs h => unc vs fun x2 vs =>
  (f125_2 x2 vs h)
noncomputable def f125_4 (x2 : V) (vs : List V) (h : HT) : Option J := unc vs fun x4 vs =>
  unc vs fun x5 vs =>
  tstv x5 (bndV (kBld [(.bool false), (.bool false), (.bool false), (.bool false), (.bool false), (.bool false), (.bool false)] [(0, 1), (1, 1), (2, 1), (3, 1)] [(.bool true), (.bool true), (.bool true), (.bool true)]) fun x8 =>
  bndE (dSt h 7 [x2, x8]) h fun _ h =>
  bndV (qLd h (some 7) [x2]) fun x900000 =>
  ret1 (.tuple [x900000, (.bool true)]) h)
  (bndV (kBin .eql [x4, (.int .i64 (.ofNat (nat_lit 2)))]) fun x10 =>
  tstv x10 (bndV (kBld [(.bool false), (.bool false), (.bool false), (.bool false), (.bool false), (.bool false), (.bool false)] [(0, 1), (1, 1), (3, 1)] [(.bool true), (.bool true), (.bool true)]) fun x11 =>
  bndE (dSt h 7 [x2, x11]) h fun _ h =>
  bndV (qLd h (some 7) [x2]) fun x900000 =>
  ret1 (.tuple [x900000, (.bool true)]) h)
  (bndV (kBin .eql [x4, (.int .i64 (.ofNat (nat_lit 4)))]) fun x13 =>
  (f125_3 x2 x4 x13 h)))
noncomputable def f125 (vs : List V) (h : HT) : Option J := unc vs fun x0 vs =>
  bndN (kAlloc [(.bool false), (.bool false), (.bool false), (.bool false), (.bool false), (.bool false), (.bool false)] []) h fun x2 h =>
  bndV (kBin .eql [x0, (.int .i64 (.ofNat (nat_lit 1)))]) fun x6 =>
  bndJ (tstv x6 (some ⟨0, [x2, x0, x6], h⟩)
  (bndV (kBin .eql [x0, (.int .i64 (.ofNat (nat_lit 3)))]) fun x7 =>
  some ⟨0, [x2, x0, x7], h⟩))
  fun j vs h => unc vs fun x2 vs =>
  (f125_4 x2 vs h)
def a125 : List Ann := [.no, .join [(.normal, [2, 4, 5])], .no, .no, .join [(.normal, [2, 4, 12])], .join [(.normal, [2, 4, 12])], .no, .no, .no, .join [(.normal, [2, 4, 23])], .no, .no]
theorem e125 : f125 = evFun Tryz.prog 125 1 a125 t125 := by kernel_rfl
theorem o125 : FnOk Tryz.prog 125 f125 := .of hmO (show enters Tryz.prog 125 = true by kernel_rfl) e125 (.nil)

/- concord/letter.place -/
noncomputable def l126 : List (Nat × (List V → HT → Option J)) := []
noncomputable def t126 : Fns := tab l126

noncomputable def f126 (vs : List V) (h : HT) : Option J := unc vs fun x0 vs =>
  bndV (kBin .geq [x0, (.int .i64 (.ofNat (nat_lit 0)))]) fun x4 =>
  bndC (gsel x4 true (retV (kMov [x0]) h) h) fun x6 h =>
  bndC (gsel x4 true (retV (kBin .lss [x6, (.int .i64 (.ofNat (nat_lit 7)))]) h) h) fun x7 h =>
  bndV (kPick [x4, x7, (.bool false)]) fun x8 =>
  ret1 x8 h
def a126 : List Ann := []
theorem e126 : f126 = evFun Tryz.prog 126 1 a126 t126 := by kernel_rfl
theorem o126 : FnOk Tryz.prog 126 f126 := .of hmO (show enters Tryz.prog 126 = true by kernel_rfl) e126 (.nil)

/- concord/letter.bare -/
noncomputable def l127 : List (Nat × (List V → HT → Option J)) := []
noncomputable def t127 : Fns := tab l127
noncomputable def f127_0 (x2 : V) (x4 : V) (x5 : V) (x43 : V) (h : HT) : Option J := bndV (qLd h none [x43]) fun x44 =>
  bndJ (tstv x44 (bndV (kFa 50 [x2]) fun x45 =>
  bndV (qLd h none [x45]) fun x46 =>
  bndV (kFa 50 [x5]) fun x47 =>
  bndE (dSt h 1 [x47, x46]) h fun _ h =>
  some ⟨0, [x4, x5], h⟩)
  (some ⟨0, [x4, x5], h⟩))
  fun j vs h => unc vs fun x4 vs =>
  unc vs fun x5 vs =>
  bndV (qLd h (some 51) [x5]) fun x48 =>
  bndE (dSt h 51 [x4, x48]) h fun _ h =>
  bndV (qLd h (some 51) [x4]) fun x900000 =>
  ret1 x900000 h
noncomputable def f127_1 (x2 : V) (x3 : V) (x4 : V) (x5 : V) (x38 : V) (h : HT) : Option J := bndV (qLd h none [x38]) fun x39 =>
  bndJ (tstv x39 (bndV (kFa 43 [x2]) fun x40 =>
  bndV (qLd h (some 7) [x40]) fun x41 =>
  bndV (kFa 43 [x5]) fun x42 =>
  bndE (dSt h 7 [x42, x41]) h fun _ h =>
  some ⟨0, [x2, x3, x4, x5], h⟩)
  (some ⟨0, [x2, x3, x4, x5], h⟩))
  fun j vs h => unc vs fun x2 vs =>
  unc vs fun x3 vs =>
  unc vs fun x4 vs =>
  unc vs fun x5 vs =>
  bndV (kFa 6 [x3]) fun x43 =>
  (f127_0 x2 x4 x5 x43 h)
noncomputable def f127_2 (x2 : V) (x3 : V) (x4 : V) (x5 : V) (x33 : V) (h : HT) : Option J := bndV (qLd h none [x33]) fun x34 =>
  bndJ (tstv x34 (bndV (kFa 22 [x2]) fun x35 =>
  bndV (qLd h (some 21) [x35]) fun x36 =>
  bndV (kFa 22 [x5]) fun x37 =>
  bndE (dSt h 21 [x37, x36]) h fun _ h =>
  some ⟨0, [x2, x3, x4, x5], h⟩)
  (some ⟨0, [x2, x3, x4, x5], h⟩))
  fun j vs h => unc vs fun x2 vs =>
  unc vs fun x3 vs =>
  unc vs fun x4 vs =>
  unc vs fun x5 vs =>
  bndV (kFa 5 [x3]) fun x38 =>
  (f127_1 x2 x3 x4 x5 x38 h)
noncomputable def f127_3 (x2 : V) (x3 : V) (x4 : V) (x5 : V) (x28 : V) (h : HT) : Option J := bndV (qLd h none [x28]) fun x29 =>
  bndJ (tstv x29 (bndV (kFa 14 [x2]) fun x30 =>
  bndV (qLd h (some 8) [x30]) fun x31 =>
  bndV (kFa 14 [x5]) fun x32 =>
  bndE (dSt h 8 [x32, x31]) h fun _ h =>
  some ⟨0, [x2, x3, x4, x5], h⟩)
  (some ⟨0, [x2, x3, x4, x5], h⟩))
  fun j vs h => unc vs fun x2 vs =>
  unc vs fun x3 vs =>
  unc vs fun x4 vs =>
  unc vs fun x5 vs =>
  bndV (kFa 4 [x3]) fun x33 =>
  (f127_2 x2 x3 x4 x5 x33 h)
noncomputable def f127_4 (x2 : V) (x3 : V) (x4 : V) (x5 : V) (x23 : V) (h : HT) : Option J := bndV (qLd h none [x23]) fun x24 =>
  bndJ (tstv x24 (bndV (kFa 7 [x2]) fun x25 =>
  bndV (qLd h (some 7) [x25]) fun x26 =>
  bndV (kFa 7 [x5]) fun x27 =>
  bndE (dSt h 7 [x27, x26]) h fun _ h =>
  some ⟨0, [x2, x3, x4, x5], h⟩)
  (some ⟨0, [x2, x3, x4, x5], h⟩))
  fun j vs h => unc vs fun x2 vs =>
  unc vs fun x3 vs =>
  unc vs fun x4 vs =>
  unc vs fun x5 vs =>
  bndV (kFa 3 [x3]) fun x28 =>
  (f127_3 x2 x3 x4 x5 x28 h)
noncomputable def f127_5 (x2 : V) (x3 : V) (x4 : V) (x5 : V) (x18 : V) (h : HT) : Option J := bndV (qLd h none [x18]) fun x19 =>
  bndJ (tstv x19 (bndV (kFa 5 [x2]) fun x20 =>
  bndV (qLd h (some 2) [x20]) fun x21 =>
  bndV (kFa 5 [x5]) fun x22 =>
  bndE (dSt h 2 [x22, x21]) h fun _ h =>
  some ⟨0, [x2, x3, x4, x5], h⟩)
  (some ⟨0, [x2, x3, x4, x5], h⟩))
  fun j vs h => unc vs fun x2 vs =>
  unc vs fun x3 vs =>
  unc vs fun x4 vs =>
  unc vs fun x5 vs =>
  bndV (kFa 2 [x3]) fun x23 =>
  (f127_4 x2 x3 x4 x5 x23 h)
noncomputable def f127_6 (x2 : V) (x3 : V) (x4 : V) (x5 : V) (x13 : V) (h : HT) : Option J := bndV (qLd h none [x13]) fun x14 =>
  bndJ (tstv x14 (bndV (kFa 3 [x2]) fun x15 =>
  bndV (qLd h (some 2) [x15]) fun x16 =>
  bndV (kFa 3 [x5]) fun x17 =>
  bndE (dSt h 2 [x17, x16]) h fun _ h =>
  some ⟨0, [x2, x3, x4, x5], h⟩)
  (some ⟨0, [x2, x3, x4, x5], h⟩))
  fun j vs h => unc vs fun x2 vs =>
  unc vs fun x3 vs =>
  unc vs fun x4 vs =>
  unc vs fun x5 vs =>
  bndV (kFa 1 [x3]) fun x18 =>
  (f127_5 x2 x3 x4 x5 x18 h)
noncomputable def f127_7 (x0 : V) (vs : List V) (h : HT) : Option J := unc vs fun x1 vs =>
  bndN (kBox [x0]) h fun x2 h =>
  bndN (kBox [x1]) h fun x3 h =>
  bndN (kAlloc [(.int .i64 (.ofNat (nat_lit 0))), (.int .i64 (.ofNat (nat_lit 0))), (.int .i64 (.ofNat (nat_lit 0))), (.int .i64 (.ofNat (nat_lit 0))), (.int .i64 (.ofNat (nat_lit 0))), (.int .i64 (.ofNat (nat_lit 0))), (.int .i64 (.ofNat (nat_lit 0))), (.int .i64 (.ofNat (nat_lit 0))), (.int .i64 (.ofNat (nat_lit 0))), (.int .i64 (.ofNat (nat_lit 0))), (.str (sb [])), (.str (sb [])), (.str (sb [])), (.str (sb [])), (.int .i64 (.ofNat (nat_lit 0))), (.int .i64 (.ofNat (nat_lit 0))), (.int .i64 (.ofNat (nat_lit 0))), (.int .i64 (.ofNat (nat_lit 0))), (.int .i64 (.ofNat (nat_lit 0))), (.int .i64 (.ofNat (nat_lit 0))), (.int .i64 (.ofNat (nat_lit 0))), (.int .i64 (.ofNat (nat_lit 0))), (.int .i64 (.ofNat (nat_lit 0))), (.int .i64 (.ofNat (nat_lit 0))), (.int .i64 (.ofNat (nat_lit 0))), (.int .i64 (.ofNat (nat_lit 0))), (.int .i64 (.ofNat (nat_lit 0))), (.int .i64 (.ofNat (nat_lit 0))), (.int .i64 (.ofNat (nat_lit 0))), (.int .i64 (.ofNat (nat_lit 0))), (.str (sb [])), (.str (sb [])), (.str (sb [])), (.str (sb [])), (.int .i64 (.ofNat (nat_lit 0))), (.int .i64 (.ofNat (nat_lit 0))), (.int .i64 (.ofNat (nat_lit 0))), (.int .i64 (.ofNat (nat_lit 0))), (.int .i64 (.ofNat (nat_lit 0))), (.int .i64 (.ofNat (nat_lit 0))), (.int .i64 (.ofNat (nat_lit 0))), (.int .i64 (.ofNat (nat_lit 0))), (.bool false), (.int .i64 (.ofNat (nat_lit 0))), (.int .i64 (.ofNat (nat_lit 0))), (.int .i64 (.ofNat (nat_lit 0))), (.int .i64 (.ofNat (nat_lit 0))), (.int .i64 (.ofNat (nat_lit 0))), (.int .i64 (.ofNat (nat_lit 0))), (.int .i64 (.ofNat (nat_lit 0))), (.str (sb []))] []) h fun x4 h =>
  bndV (kFa 0 [x2]) fun x6 =>
  bndV (qLd h none [x6]) fun x7 =>
  bndV (kFa 1 [x2]) fun x8 =>
  bndV (qLd h none [x8]) fun x9 =>
  bndV (kFa 2 [x2]) fun x10 =>
  bndV (qLd h none [x10]) fun x11 =>
  bndV (kBld [(.int .i64 (.ofNat (nat_lit 0))), (.int .i64 (.ofNat (nat_lit 0))), (.int .i64 (.ofNat (nat_lit 0))), (.int .i64 (.ofNat (nat_lit 0))), (.int .i64 (.ofNat (nat_lit 0))), (.int .i64 (.ofNat (nat_lit 0))), (.int .i64 (.ofNat (nat_lit 0))), (.int .i64 (.ofNat (nat_lit 0))), (.int .i64 (.ofNat (nat_lit 0))), (.int .i64 (.ofNat (nat_lit 0))), (.str (sb [])), (.str (sb [])), (.str (sb [])), (.str (sb [])), (.int .i64 (.ofNat (nat_lit 0))), (.int .i64 (.ofNat (nat_lit 0))), (.int .i64 (.ofNat (nat_lit 0))), (.int .i64 (.ofNat (nat_lit 0))), (.int .i64 (.ofNat (nat_lit 0))), (.int .i64 (.ofNat (nat_lit 0))), (.int .i64 (.ofNat (nat_lit 0))), (.int .i64 (.ofNat (nat_lit 0))), (.int .i64 (.ofNat (nat_lit 0))), (.int .i64 (.ofNat (nat_lit 0))), (.int .i64 (.ofNat (nat_lit 0))), (.int .i64 (.ofNat (nat_lit 0))), (.int .i64 (.ofNat (nat_lit 0))), (.int .i64 (.ofNat (nat_lit 0))), (.int .i64 (.ofNat (nat_lit 0))), (.int .i64 (.ofNat (nat_lit 0))), (.str (sb [])), (.str (sb [])), (.str (sb [])), (.str (sb [])), (.int .i64 (.ofNat (nat_lit 0))), (.int .i64 (.ofNat (nat_lit 0))), (.int .i64 (.ofNat (nat_lit 0))), (.int .i64 (.ofNat (nat_lit 0))), (.int .i64 (.ofNat (nat_lit 0))), (.int .i64 (.ofNat (nat_lit 0))), (.int .i64 (.ofNat (nat_lit 0))), (.int .i64 (.ofNat (nat_lit 0))), (.bool false), (.int .i64 (.ofNat (nat_lit 0))), (.int .i64 (.ofNat (nat_lit 0))), (.int .i64 (.ofNat (nat_lit 0))), (.int .i64 (.ofNat (nat_lit 0))), (.int .i64 (.ofNat (nat_lit 0))), (.int .i64 (.ofNat (nat_lit 0))), (.int .i64 (.ofNat (nat_lit 0))), (.str (sb []))] [(0, 1), (1, 1), (2, 1)] [x7, x9, x11]) fun x12 =>
  bndN (kAlloc [(.int .i64 (.ofNat (nat_lit 0))), (.int .i64 (.ofNat (nat_lit 0))), (.int .i64 (.ofNat (nat_lit 0))), (.int .i64 (.ofNat (nat_lit 0))), (.int .i64 (.ofNat (nat_lit 0))), (.int .i64 (.ofNat (nat_lit 0))), (.int .i64 (.ofNat (nat_lit 0))), (.int .i64 (.ofNat (nat_lit 0))), (.int .i64 (.ofNat (nat_lit 0))), (.int .i64 (.ofNat (nat_lit 0))), (.str (sb [])), (.str (sb [])), (.str (sb [])), (.str (sb [])), (.int .i64 (.ofNat (nat_lit 0))), (.int .i64 (.ofNat (nat_lit 0))), (.int .i64 (.ofNat (nat_lit 0))), (.int .i64 (.ofNat (nat_lit 0))), (.int .i64 (.ofNat (nat_lit 0))), (.int .i64 (.ofNat (nat_lit 0))), (.int .i64 (.ofNat (nat_lit 0))), (.int .i64 (.ofNat (nat_lit 0))), (.int .i64 (.ofNat (nat_lit 0))), (.int .i64 (.ofNat (nat_lit 0))), (.int .i64 (.ofNat (nat_lit 0))), (.int .i64 (.ofNat (nat_lit 0))), (.int .i64 (.ofNat (nat_lit 0))), (.int .i64 (.ofNat (nat_lit 0))), (.int .i64 (.ofNat (nat_lit 0))), (.int .i64 (.ofNat (nat_lit 0))), (.str (sb [])), (.str (sb [])), (.str (sb [])), (.str (sb [])), (.int .i64 (.ofNat (nat_lit 0))), (.int .i64 (.ofNat (nat_lit 0))), (.int .i64 (.ofNat (nat_lit 0))), (.int .i64 (.ofNat (nat_lit 0))), (.int .i64 (.ofNat (nat_lit 0))), (.int .i64 (.ofNat (nat_lit 0))), (.int .i64 (.ofNat (nat_lit 0))), (.int .i64 (.ofNat (nat_lit 0))), (.bool false), (.int .i64 (.ofNat (nat_lit 0))), (.int .i64 (.ofNat (nat_lit 0))), (.int .i64 (.ofNat (nat_lit 0))), (.int .i64 (.ofNat (nat_lit 0))), (.int .i64 (.ofNat (nat_lit 0))), (.int .i64 (.ofNat (nat_lit 0))), (.int .i64 (.ofNat (nat_lit 0))), (.str (sb []))] []) h fun x5 h =>
  bndE (dSt h 51 [x5, x12]) h fun _ h =>
  bndV (kFa 0 [x3]) fun x13 =>
  (f127_6 x2 x3 x4 x5 x13 h)
noncomputable def f127 (vs : List V) (h : HT) : Option J := unc vs fun x0 vs =>
  (f127_7 x0 vs h)
def a127 : List Ann := [.join [(.normal, [2, 3, 4, 5])], .join [(.normal, [2, 3, 4, 5])], .join [(.normal, [2, 3, 4, 5])], .join [(.normal, [2, 3, 4, 5])], .join [(.normal, [2, 3, 4, 5])], .join [(.normal, [2, 3, 4, 5])], .join [(.normal, [4, 5])]]
theorem e127 : f127 = evFun Tryz.prog 127 2 a127 t127 := by kernel_rfl
theorem o127 : FnOk Tryz.prog 127 f127 := .of hmO (show enters Tryz.prog 127 = true by kernel_rfl) e127 (.nil)

/- concord/letter.Right -/
noncomputable def l44 : List (Nat × (List V → HT → Option J)) := [(40, f40), (99, f99), (125, f125), (126, f126), (127, f127), (128, f128), (129, f129), (130, f130)]
noncomputable def t44 : Fns := tab l44
noncomputable def f44_0 (x1 : V) (x64 : V) (x67 : V) (h : HT) : Option J := bndC (gsel x64 false (f130 [x67] h) h) fun x68 h =>
  bndC (gsel x64 false (retV (kUn .not [x68]) h) h) fun x69 h =>
  bndV (kPick [x64, (.bool true), x69]) fun x70 =>
  tstv x70 (ret1 (.bool false) h)
  (bndV (kFa 43 [x1]) fun x71 =>
  bndV (qLd h (some 7) [x71]) fun x72 =>
  bndV (kBld [(.int .i64 (.ofNat (nat_lit 0))), (.int .i64 (.ofNat (nat_lit 0))), (.int .i64 (.ofNat (nat_lit 0))), (.int .i64 (.ofNat (nat_lit 0))), (.int .i64 (.ofNat (nat_lit 0))), (.int .i64 (.ofNat (nat_lit 0))), (.int .i64 (.ofNat (nat_lit 0))), (.int .i64 (.ofNat (nat_lit 0)))] [(1, 7)] [x72]) fun x73 =>
  bndC (f99 [x73] h) fun x74 h =>
  bndC (gsel x74 true (retV (kFa 50 [x1]) h) h) fun x76 h =>
  bndC (gsel x74 true (retV (qLd h none [x76]) h) h) fun x77 h =>
  bndC (gsel x74 true (retV (kLenT [x77]) h) h) fun x78 h =>
  bndC (gsel x74 true (retV (kBin .leq [x78, (.int .i64 (.ofNat (nat_lit 16384)))]) h) h) fun x79 h =>
  bndV (kPick [x74, x79, (.bool false)]) fun x80 =>
  ret1 x80 h)
noncomputable def f44_1 (x1 : V) (x46 : V) (x50 : V) (h : HT) : Option J := bndC (gsel x46 false (retV (kUn .not [x50]) h) h) fun x51 h =>
  bndV (kPick [x46, (.bool true), x51]) fun x52 =>
  bndC (gsel x52 false (retV (kFa 7 [x1]) h) h) fun x54 h =>
  bndC (gsel x52 false (retV (qLd h (some 7) [x54]) h) h) fun x55 h =>
  bndC (gsel x52 false (f40 [x55] h) h) fun x56 h =>
  bndC (gsel x52 false (retV (kUn .not [x56]) h) h) fun x57 h =>
  bndV (kPick [x52, (.bool true), x57]) fun x58 =>
  bndC (gsel x58 false (retV (kFa 14 [x1]) h) h) fun x60 h =>
  bndC (gsel x58 false (retV (qLd h (some 8) [x60]) h) h) fun x61 h =>
  bndC (gsel x58 false (f99 [x61] h) h) fun x62 h =>
  bndC (gsel x58 false (retV (kUn .not [x62]) h) h) fun x63 h =>
  bndV (kPick [x58, (.bool true), x63]) fun x64 =>
  bndC (gsel x64 false (retV (kFa 22 [x1]) h) h) fun x66 h =>
  bndC (gsel x64 false (retV (qLd h (some 21) [x66]) h) h) fun x67 h =>
  (f44_0 x1 x64 x67 h)
noncomputable def f44_2 (x1 : V) (x3 : V) (x31 : V) (x33 : V) (x36 : V) (h : HT) : Option J := bndC (gsel x31 false (retV (kEqF true [.i, .i, .i, .i, .i, .i, .i, .i, .i, .i, .s, .s, .s, .s, .i, .i, .i, .i, .i, .i, .i, .i, .i, .i, .i, .i, .i, .i, .i, .i, .s, .s, .s, .s, .i, .i, .i, .i, .i, .i, .i, .i, .b, .i, .i, .i, .i, .i, .i, .i, .s] [x33, x36]) h) h) fun x37 h =>
  bndV (kPick [x31, (.bool true), x37]) fun x38 =>
  tstv x38 (ret1 (.bool false) h)
  (bndV (kFa 0 [x3]) fun x39 =>
  bndV (qLd h none [x39]) fun x40 =>
  bndC (gsel x40 true (retV (kFa 3 [x1]) h) h) fun x42 h =>
  bndC (gsel x40 true (retV (qLd h (some 2) [x42]) h) h) fun x43 h =>
  bndC (gsel x40 true (f128 [x43] h) h) fun x44 h =>
  bndC (gsel x40 true (retV (kUn .not [x44]) h) h) fun x45 h =>
  bndV (kPick [x40, x45, (.bool false)]) fun x46 =>
  bndC (gsel x46 false (retV (kFa 5 [x1]) h) h) fun x48 h =>
  bndC (gsel x46 false (retV (qLd h (some 2) [x48]) h) h) fun x49 h =>
  bndC (gsel x46 false (f129 [x49] h) h) fun x50 h =>
  (f44_1 x1 x46 x50 h))
noncomputable def f44_3 (x1 : V) (x3 : V) (x18 : V) (x21 : V) (h : HT) : Option J := bndC (gsel x18 false (f126 [x21] h) h) fun x22 h =>
  bndC (gsel x18 false (retV (kUn .not [x22]) h) h) fun x23 h =>
  bndV (kPick [x18, (.bool true), x23]) fun x24 =>
  bndC (gsel x24 false (retV (kFa 1 [x1]) h) h) fun x26 h =>
  bndC (gsel x24 false (retV (qLd h none [x26]) h) h) fun x27 h =>
  bndC (gsel x24 false (retV (kFa 2 [x1]) h) h) fun x28 h =>
  bndC (gsel x24 false (retV (qLd h none [x28]) h) h) fun x29 h =>
  bndC (gsel x24 false (retV (kBin .eql [x27, x29]) h) h) fun x30 h =>
  bndV (kPick [x24, (.bool true), x30]) fun x31 =>
  bndC (gsel x31 false (retV (qLd h (some 51) [x1]) h) h) fun x33 h =>
  bndC (gsel x31 false (retV (qLd h (some 51) [x1]) h) h) fun x34 h =>
  bndC (gsel x31 false (retV (qLd h (some 7) [x3]) h) h) fun x35 h =>
  bndC (gsel x31 false (f127 [x34, x35] h) h) fun x36 h =>
  chk1 (gchk x31 false (sameE (qLd h (some 51) [x1]) x33)) ((f44_2 x1 x3 x31 x33 x36 h))
noncomputable def f44_4 (x1 : V) (x6 : V) (h : HT) : Option J := bndV (qLd h none [x6]) fun x7 =>
  bndC (f125 [x7] h) fun x8 h =>
  bndV (kExt 0 [x8]) fun x9 =>
  bndV (kExt 1 [x8]) fun x10 =>
  bndN (kAlloc [(.bool false), (.bool false), (.bool false), (.bool false), (.bool false), (.bool false), (.bool false)] []) h fun x3 h =>
  bndE (dSt h 7 [x3, x9]) h fun _ h =>
  bndV (kUn .not [x10]) fun x12 =>
  bndC (gsel x12 false (retV (kFa 1 [x1]) h) h) fun x14 h =>
  bndC (gsel x12 false (retV (qLd h none [x14]) h) h) fun x15 h =>
  bndC (gsel x12 false (f126 [x15] h) h) fun x16 h =>
  bndC (gsel x12 false (retV (kUn .not [x16]) h) h) fun x17 h =>
  bndV (kPick [x12, (.bool true), x17]) fun x18 =>
  bndC (gsel x18 false (retV (kFa 2 [x1]) h) h) fun x20 h =>
  bndC (gsel x18 false (retV (qLd h none [x20]) h) h) fun x21 h =>
  (f44_3 x1 x3 x18 x21 h)
noncomputable def f44 (vs : List V) (h : HT) : Option J := unc vs fun x0 vs =>
  bndN (kBox [x0]) h fun x1 h =>
  bndV (kFa 0 [x1]) fun x6 =>
  (f44_4 x1 x6 h)
def a44 : List Ann := [.no, .no]
theorem e44 : f44 = evFun Tryz.prog 44 1 a44 t44 := by kernel_rfl
theorem o44 : FnOk Tryz.prog 44 f44 := .of hmO (show enters Tryz.prog 44 = true by kernel_rfl) e44 (.cons o40 (.cons o99 (.cons o125 (.cons o126 (.cons o127 (.cons o128 (.cons o129 (.cons o130 (.nil)))))))))

/- (*concord/node.Node).want -/
noncomputable def l131 : List (Nat × (List V → HT → Option J)) := []
noncomputable def t131 : Fns := tab l131
noncomputable def f131_0 (rc : List V → HT → Option J) (x0 : V) (x1 : V) (x2 : V) (x6 : V) (x18 : V) (h : HT) : Option J := bndV (kFa 55 [x18]) fun x19 =>
  bndV (kIaA 7 1 [x19, x1]) fun x20 =>
  bndV (qLd h none [x20]) fun x21 =>
  bndV (kBin .add [x21, (.int .i64 (.ofNat (nat_lit 32)))]) fun x22 =>
  bndV (kMinI [x2, x22]) fun x23 =>
  bndV (kBin .leq [x6, x23]) fun x24 =>
  tstv x24 (bndV (kNilc [x0]) fun x28 =>
  bndV (kFa 4 [x28]) fun x29 =>
  bndV (qLd h none [x29]) fun x30 =>
  bndV (kBld [(.int .i64 (.ofNat (nat_lit 0))), (.int .i64 (.ofNat (nat_lit 0)))] [(0, 1), (1, 1)] [x1, x6]) fun x33 =>
  bndC (noF [x30, x33] h) fun x34 h =>
  bndV (kBin .add [x6, (.int .i64 (.ofNat (nat_lit 1)))]) fun x26 =>
  rc [x0, x1, x2, x26] h)
  (some ⟨0, [], h⟩)
noncomputable def f131_1 (x0 : V) (x1 : V) (vs : List V) (h : HT) : Option J := unc vs fun x2 vs =>
  bndV (kNilc [x0]) fun x9 =>
  bndV (kFa 55 [x9]) fun x10 =>
  bndV (kIaA 7 1 [x10, x1]) fun x11 =>
  bndV (qLd h none [x11]) fun x12 =>
  bndV (kBin .add [x12, (.int .i64 (.ofNat (nat_lit 1)))]) fun x13 =>
  bndJ (loopF (fun rc vs h => unc vs fun x0 vs =>
  unc vs fun x1 vs =>
  unc vs fun x2 vs =>
  unc vs fun x6 vs =>
  bndV (kNilc [x0]) fun x18 =>
  (f131_0 rc x0 x1 x2 x6 x18 h)) 1000000 [x0, x1, x2, x13] h)
  fun j vs h => ret1 (.tuple []) h
noncomputable def f131 (vs : List V) (h : HT) : Option J := unc vs fun x0 vs =>
  unc vs fun x1 vs =>
  (f131_1 x0 x1 vs h)
def a131 : List Ann := [.no, .loop [0, 1, 2, 6] [((.exit 0), [])], .no, .no]
theorem e131 : f131 = evFun Tryz.prog 131 3 a131 t131 := by kernel_rfl
theorem o131 : FnOk Tryz.prog 131 f131 := .of hmO (show enters Tryz.prog 131 = true by kernel_rfl) e131 (.nil)

/- concord/deps.Covers -/
noncomputable def l132 : List (Nat × (List V → HT → Option J)) := []
noncomputable def t132 : Fns := tab l132
noncomputable def f132_0 (x2 : V) (x7 : V) (h : HT) : Option J := loopF (fun rc vs h => unc vs fun x2 vs =>
  unc vs fun x7 vs =>
  unc vs fun x8 vs =>
  bndV (kBin .lss [x8, (.int .i64 (.ofNat (nat_lit 7)))]) fun x9 =>
  tstv x9 (bndV (kIxA 7 1 false [x7, x8]) fun x11 =>
  bndV (kIaA 7 1 [x2, x8]) fun x14 =>
  bndV (qLd h none [x14]) fun x15 =>
  bndV (kBin .gtr [x11, x15]) fun x16 =>
  tstv x16 (some ⟨1, [(.bool false)], h⟩)
  (bndV (kBin .add [x8, (.int .i64 (.ofNat (nat_lit 1)))]) fun x17 =>
  rc [x2, x7, x17] h))
  (some ⟨0, [], h⟩)) 1000000 [x2, x7, (.int .i64 (.ofNat (nat_lit 0)))] h
noncomputable def f132 (vs : List V) (h : HT) : Option J := unc vs fun x0 vs =>
  unc vs fun x1 vs =>
  bndN (kBox [x0]) h fun x2 h =>
  bndN (kBox [x1]) h fun x3 h =>
  bndV (qLd h (some 7) [x3]) fun x7 =>
  bndJ ((f132_0 x2 x7 h))
  fun j vs h => nsw j (ret1 (.bool true) h)
  fun j => unc vs fun x4 vs =>
  ret1 x4 h
def a132 : List Ann := [.no, .loop [2, 7, 8] [((.exit 0), []), (.ret, [4])], .no, .no, .no]
theorem e132 : f132 = evFun Tryz.prog 132 2 a132 t132 := by kernel_rfl
theorem o132 : FnOk Tryz.prog 132 f132 := .of hmO (show enters Tryz.prog 132 = true by kernel_rfl) e132 (.nil)

/- (*concord/node.Node).told -/
noncomputable def l45 : List (Nat × (List V → HT → Option J)) := [(131, f131), (132, f132)]
noncomputable def t45 : Fns := tab l45
noncomputable def f45_0 (rc : List V → HT → Option J) (x0 : V) (x3 : V) (x4 : V) (vs : List V) (h : HT) : Option J := unc vs fun x8 vs =>
  unc vs fun x9 vs =>
  bndV (kBin .lss [x9, (.int .i64 (.ofNat (nat_lit 7)))]) fun x10 =>
  tstv x10 (bndV (kIxA 7 1 false [x8, x9]) fun x12 =>
  bndC (f131 [x0, x9, x12] h) fun x16 h =>
  bndV (kNilc [x0]) fun x20 =>
  bndV (kFa 55 [x20]) fun x21 =>
  bndV (kIaA 7 1 [x21, x9]) fun x22 =>
  bndV (qLd h none [x22]) fun x23 =>
  bndV (kBin .sub [x23, x12]) fun x25 =>
  bndV (kBin .add [x4, x25]) fun x26 =>
  bndV (kBin .add [x9, (.int .i64 (.ofNat (nat_lit 1)))]) fun x27 =>
  rc [x0, x3, x26, x8, x27] h)
  (some ⟨0, [x0, x3, x4], h⟩)
noncomputable def f45_1 (x0 : V) (x3 : V) (x4 : V) (h : HT) : Option J := bndV (kNilc [x0]) fun x29 =>
  bndV (kFa 55 [x29]) fun x30 =>
  bndV (qLd h (some 7) [x30]) fun x31 =>
  bndV (kFa 43 [x3]) fun x32 =>
  bndV (qLd h (some 7) [x32]) fun x33 =>
  bndC (f132 [x31, x33] h) fun x34 h =>
  bndC (gsel x34 true (retV (kMov [x4]) h) h) fun x36 h =>
  bndC (gsel x34 true (retV (kBin .geq [x36, (.int .i64 (.ofNat (nat_lit 32)))]) h) h) fun x37 h =>
  bndV (kPick [x34, x37, (.bool false)]) fun x38 =>
  tstv x38 (bndV (kFa 1 [x3]) fun x40 =>
  bndV (qLd h none [x40]) fun x41 =>
  bndC (noF [x0, x41] h) fun x42 h =>
  ret1 (.tuple []) h)
  (ret1 (.tuple []) h)
noncomputable def f45 (vs : List V) (h : HT) : Option J := unc vs fun x0 vs =>
  unc vs fun x1 vs =>
  bndN (kBox [x1]) h fun x3 h =>
  bndV (kFa 43 [x3]) fun x7 =>
  bndV (qLd h (some 7) [x7]) fun x8 =>
  bndJ (loopF (fun rc vs h => unc vs fun x0 vs =>
  unc vs fun x3 vs =>
  unc vs fun x4 vs =>
  (f45_0 rc x0 x3 x4 vs h)) 1000000 [x0, x3, (.int .i64 (.ofNat (nat_lit 0))), x8, (.int .i64 (.ofNat (nat_lit 0)))] h)
  fun j vs h => unc vs fun x0 vs =>
  unc vs fun x3 vs =>
  unc vs fun x4 vs =>
  (f45_1 x0 x3 x4 h)
def a45 : List Ann := [.no, .loop [0, 3, 4, 8, 9] [((.exit 0), [0, 3, 4])], .no, .no, .no]
theorem e45 : f45 = evFun Tryz.prog 45 2 a45 t45 := by kernel_rfl
theorem o45 : FnOk Tryz.prog 45 f45 := .of hmO (show enters Tryz.prog 45 = true by kernel_rfl) e45 (.cons o131 (.cons o132 (.nil)))

/- (*concord/core.Core).one -/
noncomputable def l133 : List (Nat × (List V → HT → Option J)) := []
noncomputable def t133 : Fns := tab l133

noncomputable def f133 (vs : List V) (h : HT) : Option J := unc vs fun x0 vs =>
  unc vs fun x1 vs =>
  bndV (kBin .geq [x1, (.int .i64 (.ofNat (nat_lit 0)))]) fun x6 =>
  bndC (gsel x6 true (retV (kMov [x1]) h) h) fun x8 h =>
  bndC (gsel x6 true (retV (kMov [x0]) h) h) fun x9 h =>
  bndC (gsel x6 true (retV (kNilc [x9]) h) h) fun x10 h =>
  bndC (gsel x6 true (retV (kFa 0 [x10]) h) h) fun x11 h =>
  bndC (gsel x6 true (retV (qLd h none [x11]) h) h) fun x12 h =>
  bndC (gsel x6 true (retV (kBin .lss [x8, x12]) h) h) fun x13 h =>
  bndV (kPick [x6, x13, (.bool false)]) fun x14 =>
  ret1 x14 h
def a133 : List Ann := []
theorem e133 : f133 = evFun Tryz.prog 133 2 a133 t133 := by kernel_rfl
theorem o133 : FnOk Tryz.prog 133 f133 := .of hmO (show enters Tryz.prog 133 = true by kernel_rfl) e133 (.nil)

/- (*concord/core.Core).find -/
noncomputable def l207 : List (Nat × (List V → HT → Option J)) := []
noncomputable def t207 : Fns := tab l207
noncomputable def f207_0 (rc : List V → HT → Option J) (x3 : V) (x10 : V) (x11 : V) (vs : List V) (h : HT) : Option J := unc vs fun x12 vs =>
  bndV (kBin .lss [x12, x11]) fun x13 =>
  tstv x13 (bndV (kIaS 1 [x10, x12]) fun x14 =>
  bndV (qLd h none [x14]) fun x15 =>
  bndV (kNilc [x15]) fun x17 =>
  bndV (kFa 0 [x17]) fun x18 =>
  bndV (qLd h (some 2) [x18]) fun x19 =>
  bndV (qLd h (some 2) [x3]) fun x20 =>
  bndV (kEqF false [.i, .i] [x19, x20]) fun x21 =>
  tstv x21 (some ⟨1, [x15], h⟩)
  (bndV (kBin .add [x12, (.int .i64 (.ofNat (nat_lit 1)))]) fun x23 =>
  rc [x3, x10, x11, x23] h))
  (some ⟨0, [], h⟩)
noncomputable def f207_1 (x0 : V) (x1 : V) (h : HT) : Option J := bndN (kBox [x1]) h fun x3 h =>
  bndV (kNilc [x0]) fun x8 =>
  bndV (kFa 4 [x8]) fun x9 =>
  bndV (qLd h none [x9]) fun x10 =>
  bndV (kLenS [x10]) fun x11 =>
  bndJ (loopF (fun rc vs h => unc vs fun x3 vs =>
  unc vs fun x10 vs =>
  unc vs fun x11 vs =>
  (f207_0 rc x3 x10 x11 vs h)) 1000000 [x3, x10, x11, (.int .i64 (.ofNat (nat_lit 0)))] h)
  fun j vs h => nsw j (ret1 (.ptr none) h)
  fun j => unc vs fun x4 vs =>
  ret1 x4 h
noncomputable def f207 (vs : List V) (h : HT) : Option J := unc vs fun x0 vs =>
  unc vs fun x1 vs =>
  (f207_1 x0 x1 h)
def a207 : List Ann := [.no, .loop [3, 10, 11, 12] [((.exit 0), []), (.ret, [4])], .no, .no, .no]
theorem e207 : f207 = evFun Tryz.prog 207 2 a207 t207 := by kernel_rfl
theorem o207 : FnOk Tryz.prog 207 f207 := .of hmO (show enters Tryz.prog 207 = true by kernel_rfl) e207 (.nil)

/- concord/deps.Join -/
noncomputable def l270 : List (Nat × (List V → HT → Option J)) := []
noncomputable def t270 : Fns := tab l270
noncomputable def f270_0 (rc : List V → HT → Option J) (x2 : V) (x3 : V) (x16 : V) (x17 : V) (x18 : V) (vs : List V) (h : HT) : Option J := unc vs fun x29 vs =>
  unc vs fun x30 vs =>
  bndV (kBin .lss [x30, (.int .i64 (.ofNat (nat_lit 7)))]) fun x31 =>
  tstv x31 (bndV (kIxA 7 1 false [x29, x30]) fun x33 =>
  bndV (kFa 1 [x3]) fun x36 =>
  bndV (kIaA 7 1 [x36, x30]) fun x37 =>
  bndV (qLd h none [x37]) fun x38 =>
  bndV (kMaxI [x38, x33]) fun x40 =>
  bndV (kFa 1 [x3]) fun x41 =>
  bndV (kIaA 7 1 [x41, x30]) fun x42 =>
  bndE (dSt h 1 [x42, x40]) h fun _ h =>
  bndV (kBin .add [x30, (.int .i64 (.ofNat (nat_lit 1)))]) fun x43 =>
  rc [x2, x3, x16, x17, x18, x29, x43] h)
  (some ⟨0, [x2, x3, x16, x17, x18], h⟩)
noncomputable def f270_1 (rc : List V → HT → Option J) (x2 : V) (x3 : V) (x16 : V) (x17 : V) (x18 : V) (x29 : V) (h : HT) : Option J := bndJ (loopF (fun rc vs h => unc vs fun x2 vs =>
  unc vs fun x3 vs =>
  unc vs fun x16 vs =>
  unc vs fun x17 vs =>
  unc vs fun x18 vs =>
  (f270_0 rc x2 x3 x16 x17 x18 vs h)) 1000000 [x2, x3, x16, x17, x18, x29, (.int .i64 (.ofNat (nat_lit 0)))] h)
  fun j vs h => unc vs fun x2 vs =>
  unc vs fun x3 vs =>
  unc vs fun x16 vs =>
  unc vs fun x17 vs =>
  unc vs fun x18 vs =>
  bndV (kBin .add [x18, (.int .i64 (.ofNat (nat_lit 1)))]) fun x44 =>
  rc [x2, x3, x16, x17, x44] h
noncomputable def f270_2 (rc : List V → HT → Option J) (x2 : V) (x3 : V) (x16 : V) (x17 : V) (x18 : V) (x19 : V) (h : HT) : Option J := tstv x19 (bndV (kIaS 8 [x16, x18]) fun x20 =>
  bndV (qLd h (some 8) [x20]) fun x21 =>
  bndN (kAlloc [(.int .i64 (.ofNat (nat_lit 0))), (.int .i64 (.ofNat (nat_lit 0))), (.int .i64 (.ofNat (nat_lit 0))), (.int .i64 (.ofNat (nat_lit 0))), (.int .i64 (.ofNat (nat_lit 0))), (.int .i64 (.ofNat (nat_lit 0))), (.int .i64 (.ofNat (nat_lit 0))), (.int .i64 (.ofNat (nat_lit 0)))] []) h fun x5 h =>
  bndE (dSt h 8 [x5, x21]) h fun _ h =>
  bndV (kFa 0 [x3]) fun x22 =>
  bndV (qLd h none [x22]) fun x23 =>
  bndV (kFa 0 [x5]) fun x24 =>
  bndV (qLd h none [x24]) fun x25 =>
  bndV (kMaxI [x23, x25]) fun x26 =>
  bndV (kFa 0 [x3]) fun x27 =>
  bndE (dSt h 1 [x27, x26]) h fun _ h =>
  bndV (kFa 1 [x5]) fun x28 =>
  bndV (qLd h (some 7) [x28]) fun x29 =>
  (f270_1 rc x2 x3 x16 x17 x18 x29 h))
  (some ⟨0, [x2, x3], h⟩)
noncomputable def f270_3 (x2 : V) (x3 : V) (x16 : V) (x17 : V) (h : HT) : Option J := bndJ (loopF (fun rc vs h => unc vs fun x2 vs =>
  unc vs fun x3 vs =>
  unc vs fun x16 vs =>
  unc vs fun x17 vs =>
  unc vs fun x18 vs =>
  bndV (kBin .lss [x18, x17]) fun x19 =>
  (f270_2 rc x2 x3 x16 x17 x18 x19 h)) 1000000 [x2, x3, x16, x17, (.int .i64 (.ofNat (nat_lit 0)))] h)
  fun j vs h => unc vs fun x2 vs =>
  unc vs fun x3 vs =>
  bndV (qLd h (some 8) [x3]) fun x45 =>
  bndE (dSt h 8 [x2, x45]) h fun _ h =>
  bndV (qLd h (some 8) [x2]) fun x900000 =>
  ret1 x900000 h
noncomputable def f270_4 (x0 : V) (h : HT) : Option J := bndN (kAlloc [(.int .i64 (.ofNat (nat_lit 0))), (.int .i64 (.ofNat (nat_lit 0))), (.int .i64 (.ofNat (nat_lit 0))), (.int .i64 (.ofNat (nat_lit 0))), (.int .i64 (.ofNat (nat_lit 0))), (.int .i64 (.ofNat (nat_lit 0))), (.int .i64 (.ofNat (nat_lit 0))), (.int .i64 (.ofNat (nat_lit 0)))] []) h fun x2 h =>
  bndV (kLenS [x0]) fun x9 =>
  bndV (kBin .eql [x9, (.int .i64 (.ofNat (nat_lit 0)))]) fun x10 =>
  tstv x10 (bndV (kBld [(.int .i64 (.ofNat (nat_lit 0))), (.int .i64 (.ofNat (nat_lit 0))), (.int .i64 (.ofNat (nat_lit 0))), (.int .i64 (.ofNat (nat_lit 0))), (.int .i64 (.ofNat (nat_lit 0))), (.int .i64 (.ofNat (nat_lit 0))), (.int .i64 (.ofNat (nat_lit 0))), (.int .i64 (.ofNat (nat_lit 0)))] [] []) fun x11 =>
  bndE (dSt h 8 [x2, x11]) h fun _ h =>
  bndV (qLd h (some 8) [x2]) fun x900000 =>
  ret1 x900000 h)
  (bndV (kIaS 8 [x0, (.int .i64 (.ofNat (nat_lit 0)))]) fun x13 =>
  bndV (qLd h (some 8) [x13]) fun x14 =>
  bndN (kAlloc [(.int .i64 (.ofNat (nat_lit 0))), (.int .i64 (.ofNat (nat_lit 0))), (.int .i64 (.ofNat (nat_lit 0))), (.int .i64 (.ofNat (nat_lit 0))), (.int .i64 (.ofNat (nat_lit 0))), (.int .i64 (.ofNat (nat_lit 0))), (.int .i64 (.ofNat (nat_lit 0))), (.int .i64 (.ofNat (nat_lit 0)))] []) h fun x3 h =>
  bndE (dSt h 8 [x3, x14]) h fun _ h =>
  bndV (kSlS 8 true false [x0, (.int .i64 (.ofNat (nat_lit 1)))]) fun x16 =>
  bndV (kLenS [x16]) fun x17 =>
  (f270_3 x2 x3 x16 x17 h))
noncomputable def f270 (vs : List V) (h : HT) : Option J := unc vs fun x0 vs =>
  (f270_4 x0 h)
def a270 : List Ann := [.no, .no, .loop [2, 3, 16, 17, 18] [((.exit 0), [2, 3])], .no, .no, .no, .loop [2, 3, 16, 17, 18, 29, 30] [((.exit 2), [2, 3, 16, 17, 18])], .no, .no]
theorem e270 : f270 = evFun Tryz.prog 270 1 a270 t270 := by kernel_rfl
theorem o270 : FnOk Tryz.prog 270 f270 := .of hmO (show enters Tryz.prog 270 = true by kernel_rfl) e270 (.nil)

/- (*concord/core.Core).pre -/
noncomputable def l209 : List (Nat × (List V → HT → Option J)) := [(99, f99), (121, f121), (122, f122), (206, f206), (270, f270)]
noncomputable def t209 : Fns := tab l209
noncomputable def f209_0 (x0 : V) (x5 : V) (x8 : V) (x9 : V) (x49 : V) (x52 : V) (x54 : V) (x56 : V) (x58 : V) (x60 : V) (x62 : V) (x63 : V) (h : HT) : Option J := bndC (gsel x52 false (retV (kMov [x49]) h) h) fun x64 h =>
  bndC (gsel x52 false (retV (kBld [(.int .i64 (.ofNat (nat_lit 0))), (.int .i64 (.ofNat (nat_lit 0))), (.int .i64 (.ofNat (nat_lit 0))), (.int .i64 (.ofNat (nat_lit 0))), (.int .i64 (.ofNat (nat_lit 0))), (.int .i64 (.ofNat (nat_lit 0))), (.int .i64 (.ofNat (nat_lit 0))), (.int .i64 (.ofNat (nat_lit 0))), (.str (sb [])), (.str (sb [])), (.str (sb [])), (.str (sb [])), (.int .i64 (.ofNat (nat_lit 0))), (.int .i64 (.ofNat (nat_lit 0))), (.int .i64 (.ofNat (nat_lit 0))), (.int .i64 (.ofNat (nat_lit 0))), (.int .i64 (.ofNat (nat_lit 0))), (.int .i64 (.ofNat (nat_lit 0))), (.int .i64 (.ofNat (nat_lit 0))), (.int .i64 (.ofNat (nat_lit 0))), (.bool false)] [(0, 1), (1, 2), (3, 2), (5, 7), (12, 8), (20, 1)] [(.int .i64 (.ofNat (nat_lit 1))), x58, x60, x62, x63, x64]) h) h) fun x65 h =>
  bndC (gsel x52 false (f122 [x54, x56, x65] h) h) fun x66 h =>
  bndC (gsel x52 false (retV (kUn .not [x66]) h) h) fun x67 h =>
  bndV (kPick [x52, (.bool true), x67]) fun x68 =>
  tstv x68 (ret1 (.tuple []) h)
  (bndV (qLd h (some 8) [x9]) fun x69 =>
  bndV (kFa 14 [x8]) fun x70 =>
  bndE (dSt h 8 [x70, x69]) h fun _ h =>
  bndV (kFa 1 [x5]) fun x72 =>
  bndV (qLd h none [x72]) fun x73 =>
  bndV (qLd h (some 51) [x8]) fun x74 =>
  bndC (f206 [x0, x73, x74] h) fun x75 h =>
  ret1 (.tuple []) h)
noncomputable def f209_1 (x0 : V) (x5 : V) (x8 : V) (x9 : V) (x43 : V) (x48 : V) (h : HT) : Option J := bndV (kPick [x43, x48, (.bool false)]) fun x49 =>
  bndV (qLd h (some 8) [x9]) fun x50 =>
  bndC (f99 [x50] h) fun x51 h =>
  bndV (kUn .not [x51]) fun x52 =>
  bndC (gsel x52 false (retV (kMov [x0]) h) h) fun x54 h =>
  bndC (gsel x52 false (retV (kFa 3 [x5]) h) h) fun x55 h =>
  bndC (gsel x52 false (retV (qLd h (some 2) [x55]) h) h) fun x56 h =>
  bndC (gsel x52 false (retV (kFa 5 [x5]) h) h) fun x57 h =>
  bndC (gsel x52 false (retV (qLd h (some 2) [x57]) h) h) fun x58 h =>
  bndC (gsel x52 false (retV (kFa 5 [x5]) h) h) fun x59 h =>
  bndC (gsel x52 false (retV (qLd h (some 2) [x59]) h) h) fun x60 h =>
  bndC (gsel x52 false (retV (kFa 7 [x5]) h) h) fun x61 h =>
  bndC (gsel x52 false (retV (qLd h (some 7) [x61]) h) h) fun x62 h =>
  bndC (gsel x52 false (retV (qLd h (some 8) [x9]) h) h) fun x63 h =>
  (f209_0 x0 x5 x8 x9 x49 x52 x54 x56 x58 x60 x62 x63 h)
noncomputable def f209_2 (x0 : V) (x5 : V) (x8 : V) (x27 : V) (x28 : V) (x32 : V) (x34 : V) (x36 : V) (h : HT) : Option J := bndN (kAlloc [(.int .i64 (.ofNat (nat_lit 0))), (.int .i64 (.ofNat (nat_lit 0))), (.int .i64 (.ofNat (nat_lit 0))), (.int .i64 (.ofNat (nat_lit 0))), (.int .i64 (.ofNat (nat_lit 0))), (.int .i64 (.ofNat (nat_lit 0))), (.int .i64 (.ofNat (nat_lit 0))), (.int .i64 (.ofNat (nat_lit 0)))] []) h fun x9 h =>
  bndC (f121 [x32, x34, x36] h) fun x37 h =>
  chk1 (sameE (qLd h (some 8) [x27]) x28) (bndN (kBsl 8 2 [(.int .i64 (.ofNat (nat_lit 0))), (.int .i64 (.ofNat (nat_lit 0))), (.int .i64 (.ofNat (nat_lit 0))), (.int .i64 (.ofNat (nat_lit 0))), (.int .i64 (.ofNat (nat_lit 0))), (.int .i64 (.ofNat (nat_lit 0))), (.int .i64 (.ofNat (nat_lit 0))), (.int .i64 (.ofNat (nat_lit 0))), (.int .i64 (.ofNat (nat_lit 0))), (.int .i64 (.ofNat (nat_lit 0))), (.int .i64 (.ofNat (nat_lit 0))), (.int .i64 (.ofNat (nat_lit 0))), (.int .i64 (.ofNat (nat_lit 0))), (.int .i64 (.ofNat (nat_lit 0))), (.int .i64 (.ofNat (nat_lit 0))), (.int .i64 (.ofNat (nat_lit 0)))] [(0, 8), (8, 8)] [x28, x37]) h fun x38 h =>
  bndC (f270 [x38] h) fun x39 h =>
  bndE (dSt h 8 [x9, x39]) h fun _ h =>
  bndV (kFa 5 [x5]) fun x40 =>
  bndV (qLd h (some 2) [x40]) fun x41 =>
  bndV (kBld [(.int .i64 (.ofNat (nat_lit 0))), (.int .i64 (.ofNat (nat_lit 0)))] [] []) fun x42 =>
  bndV (kEqF false [.i, .i] [x41, x42]) fun x43 =>
  bndC (gsel x43 true (retV (qLd h (some 8) [x9]) h) h) fun x45 h =>
  bndC (gsel x43 true (retV (kFa 14 [x5]) h) h) fun x46 h =>
  bndC (gsel x43 true (retV (qLd h (some 8) [x46]) h) h) fun x47 h =>
  bndC (gsel x43 true (retV (kEqF false [.i, .i, .i, .i, .i, .i, .i, .i] [x45, x47]) h) h) fun x48 h =>
  (f209_1 x0 x5 x8 x9 x43 x48 h))
noncomputable def f209_3 (x0 : V) (x3 : V) (x5 : V) (x6 : V) (x8 : V) (h : HT) : Option J := tstv x3 (bndV (kFa 0 [x6]) fun x19 =>
  bndV (qLd h none [x19]) fun x20 =>
  bndV (kBin .eql [x20, (.int .i64 (.ofNat (nat_lit 1)))]) fun x21 =>
  tstv x21 (bndV (kFa 1 [x5]) fun x23 =>
  bndV (qLd h none [x23]) fun x24 =>
  bndV (qLd h (some 51) [x8]) fun x25 =>
  bndC (f206 [x0, x24, x25] h) fun x26 h =>
  ret1 (.tuple []) h)
  (ret1 (.tuple []) h))
  (bndV (kFa 14 [x5]) fun x27 =>
  bndV (qLd h (some 8) [x27]) fun x28 =>
  bndV (kNilc [x0]) fun x30 =>
  bndV (kFa 3 [x30]) fun x31 =>
  bndV (qLd h none [x31]) fun x32 =>
  bndV (kFa 3 [x5]) fun x33 =>
  bndV (qLd h (some 2) [x33]) fun x34 =>
  bndV (kFa 7 [x5]) fun x35 =>
  bndV (qLd h (some 7) [x35]) fun x36 =>
  (f209_2 x0 x5 x8 x27 x28 x32 x34 x36 h))
noncomputable def f209_4 (x0 : V) (vs : List V) (h : HT) : Option J := unc vs fun x1 vs =>
  unc vs fun x2 vs =>
  unc vs fun x3 vs =>
  bndN (kBox [x1]) h fun x5 h =>
  bndN (kBox [x2]) h fun x6 h =>
  bndV (kFa 3 [x5]) fun x11 =>
  bndV (qLd h (some 2) [x11]) fun x12 =>
  bndV (kFa 5 [x5]) fun x13 =>
  bndV (qLd h (some 2) [x13]) fun x14 =>
  bndV (kFa 12 [x6]) fun x15 =>
  bndV (qLd h (some 8) [x15]) fun x16 =>
  bndV (kBld [(.int .i64 (.ofNat (nat_lit 0))), (.int .i64 (.ofNat (nat_lit 0))), (.int .i64 (.ofNat (nat_lit 0))), (.int .i64 (.ofNat (nat_lit 0))), (.int .i64 (.ofNat (nat_lit 0))), (.int .i64 (.ofNat (nat_lit 0))), (.int .i64 (.ofNat (nat_lit 0))), (.int .i64 (.ofNat (nat_lit 0))), (.int .i64 (.ofNat (nat_lit 0))), (.int .i64 (.ofNat (nat_lit 0))), (.str (sb [])), (.str (sb [])), (.str (sb [])), (.str (sb [])), (.int .i64 (.ofNat (nat_lit 0))), (.int .i64 (.ofNat (nat_lit 0))), (.int .i64 (.ofNat (nat_lit 0))), (.int .i64 (.ofNat (nat_lit 0))), (.int .i64 (.ofNat (nat_lit 0))), (.int .i64 (.ofNat (nat_lit 0))), (.int .i64 (.ofNat (nat_lit 0))), (.int .i64 (.ofNat (nat_lit 0))), (.int .i64 (.ofNat (nat_lit 0))), (.int .i64 (.ofNat (nat_lit 0))), (.int .i64 (.ofNat (nat_lit 0))), (.int .i64 (.ofNat (nat_lit 0))), (.int .i64 (.ofNat (nat_lit 0))), (.int .i64 (.ofNat (nat_lit 0))), (.int .i64 (.ofNat (nat_lit 0))), (.int .i64 (.ofNat (nat_lit 0))), (.str (sb [])), (.str (sb [])), (.str (sb [])), (.str (sb [])), (.int .i64 (.ofNat (nat_lit 0))), (.int .i64 (.ofNat (nat_lit 0))), (.int .i64 (.ofNat (nat_lit 0))), (.int .i64 (.ofNat (nat_lit 0))), (.int .i64 (.ofNat (nat_lit 0))), (.int .i64 (.ofNat (nat_lit 0))), (.int .i64 (.ofNat (nat_lit 0))), (.int .i64 (.ofNat (nat_lit 0))), (.bool false), (.int .i64 (.ofNat (nat_lit 0))), (.int .i64 (.ofNat (nat_lit 0))), (.int .i64 (.ofNat (nat_lit 0))), (.int .i64 (.ofNat (nat_lit 0))), (.int .i64 (.ofNat (nat_lit 0))), (.int .i64 (.ofNat (nat_lit 0))), (.int .i64 (.ofNat (nat_lit 0))), (.str (sb []))] [(0, 1), (3, 2), (5, 2), (14, 8)] [(.int .i64 (.ofNat (nat_lit 2))), x12, x14, x16]) fun x17 =>
  bndN (kAlloc [(.int .i64 (.ofNat (nat_lit 0))), (.int .i64 (.ofNat (nat_lit 0))), (.int .i64 (.ofNat (nat_lit 0))), (.int .i64 (.ofNat (nat_lit 0))), (.int .i64 (.ofNat (nat_lit 0))), (.int .i64 (.ofNat (nat_lit 0))), (.int .i64 (.ofNat (nat_lit 0))), (.int .i64 (.ofNat (nat_lit 0))), (.int .i64 (.ofNat (nat_lit 0))), (.int .i64 (.ofNat (nat_lit 0))), (.str (sb [])), (.str (sb [])), (.str (sb [])), (.str (sb [])), (.int .i64 (.ofNat (nat_lit 0))), (.int .i64 (.ofNat (nat_lit 0))), (.int .i64 (.ofNat (nat_lit 0))), (.int .i64 (.ofNat (nat_lit 0))), (.int .i64 (.ofNat (nat_lit 0))), (.int .i64 (.ofNat (nat_lit 0))), (.int .i64 (.ofNat (nat_lit 0))), (.int .i64 (.ofNat (nat_lit 0))), (.int .i64 (.ofNat (nat_lit 0))), (.int .i64 (.ofNat (nat_lit 0))), (.int .i64 (.ofNat (nat_lit 0))), (.int .i64 (.ofNat (nat_lit 0))), (.int .i64 (.ofNat (nat_lit 0))), (.int .i64 (.ofNat (nat_lit 0))), (.int .i64 (.ofNat (nat_lit 0))), (.int .i64 (.ofNat (nat_lit 0))), (.str (sb [])), (.str (sb [])), (.str (sb [])), (.str (sb [])), (.int .i64 (.ofNat (nat_lit 0))), (.int .i64 (.ofNat (nat_lit 0))), (.int .i64 (.ofNat (nat_lit 0))), (.int .i64 (.ofNat (nat_lit 0))), (.int .i64 (.ofNat (nat_lit 0))), (.int .i64 (.ofNat (nat_lit 0))), (.int .i64 (.ofNat (nat_lit 0))), (.int .i64 (.ofNat (nat_lit 0))), (.bool false), (.int .i64 (.ofNat (nat_lit 0))), (.int .i64 (.ofNat (nat_lit 0))), (.int .i64 (.ofNat (nat_lit 0))), (.int .i64 (.ofNat (nat_lit 0))), (.int .i64 (.ofNat (nat_lit 0))), (.int .i64 (.ofNat (nat_lit 0))), (.int .i64 (.ofNat (nat_lit 0))), (.str (sb []))] []) h fun x8 h =>
  bndE (dSt h 51 [x8, x17]) h fun _ h =>
  (f209_3 x0 x3 x5 x6 x8 h)
noncomputable def f209 (vs : List V) (h : HT) : Option J := unc vs fun x0 vs =>
  (f209_4 x0 vs h)
def a209 : List Ann := [.no, .no, .no]
theorem e209 : f209 = evFun Tryz.prog 209 4 a209 t209 := by kernel_rfl
theorem o209 : FnOk Tryz.prog 209 f209 := .of hmO (show enters Tryz.prog 209 = true by kernel_rfl) e209 (.cons o99 (.cons o121 (.cons o122 (.cons o206 (.cons o270 (.nil))))))

/- (*concord/core.Core).asked -/
noncomputable def l135 : List (Nat × (List V → HT → Option J)) := [(122, f122), (200, f200), (204, f204), (206, f206), (207, f207), (209, f209)]
noncomputable def t135 : Fns := tab l135
noncomputable def f135_0 (x0 : V) (x3 : V) (x92 : V) (x95 : V) (x97 : V) (x99 : V) (x101 : V) (x103 : V) (x104 : V) (h : HT) : Option J := bndC (gsel x92 false (retV (qLd h (some 8) [x104]) h) h) fun x105 h =>
  bndC (gsel x92 false (retV (kBld [(.int .i64 (.ofNat (nat_lit 0))), (.int .i64 (.ofNat (nat_lit 0))), (.int .i64 (.ofNat (nat_lit 0))), (.int .i64 (.ofNat (nat_lit 0))), (.int .i64 (.ofNat (nat_lit 0))), (.int .i64 (.ofNat (nat_lit 0))), (.int .i64 (.ofNat (nat_lit 0))), (.int .i64 (.ofNat (nat_lit 0))), (.str (sb [])), (.str (sb [])), (.str (sb [])), (.str (sb [])), (.int .i64 (.ofNat (nat_lit 0))), (.int .i64 (.ofNat (nat_lit 0))), (.int .i64 (.ofNat (nat_lit 0))), (.int .i64 (.ofNat (nat_lit 0))), (.int .i64 (.ofNat (nat_lit 0))), (.int .i64 (.ofNat (nat_lit 0))), (.int .i64 (.ofNat (nat_lit 0))), (.int .i64 (.ofNat (nat_lit 0))), (.bool false)] [(0, 1), (1, 2), (3, 2), (5, 7), (12, 8)] [(.int .i64 (.ofNat (nat_lit 2))), x99, x101, x103, x105]) h) h) fun x106 h =>
  bndC (gsel x92 false (f122 [x95, x97, x106] h) h) fun x107 h =>
  bndV (kPick [x92, (.bool true), x107]) fun x108 =>
  tstv x108 (bndV (kFa 1 [x3]) fun x110 =>
  bndV (qLd h none [x110]) fun x111 =>
  bndV (kFa 3 [x3]) fun x112 =>
  bndV (qLd h (some 2) [x112]) fun x113 =>
  bndV (kFa 5 [x3]) fun x114 =>
  bndV (qLd h (some 2) [x114]) fun x115 =>
  bndV (kBld [(.int .i64 (.ofNat (nat_lit 0))), (.int .i64 (.ofNat (nat_lit 0))), (.int .i64 (.ofNat (nat_lit 0))), (.int .i64 (.ofNat (nat_lit 0))), (.int .i64 (.ofNat (nat_lit 0))), (.int .i64 (.ofNat (nat_lit 0))), (.int .i64 (.ofNat (nat_lit 0))), (.int .i64 (.ofNat (nat_lit 0))), (.int .i64 (.ofNat (nat_lit 0))), (.int .i64 (.ofNat (nat_lit 0))), (.str (sb [])), (.str (sb [])), (.str (sb [])), (.str (sb [])), (.int .i64 (.ofNat (nat_lit 0))), (.int .i64 (.ofNat (nat_lit 0))), (.int .i64 (.ofNat (nat_lit 0))), (.int .i64 (.ofNat (nat_lit 0))), (.int .i64 (.ofNat (nat_lit 0))), (.int .i64 (.ofNat (nat_lit 0))), (.int .i64 (.ofNat (nat_lit 0))), (.int .i64 (.ofNat (nat_lit 0))), (.int .i64 (.ofNat (nat_lit 0))), (.int .i64 (.ofNat (nat_lit 0))), (.int .i64 (.ofNat (nat_lit 0))), (.int .i64 (.ofNat (nat_lit 0))), (.int .i64 (.ofNat (nat_lit 0))), (.int .i64 (.ofNat (nat_lit 0))), (.int .i64 (.ofNat (nat_lit 0))), (.int .i64 (.ofNat (nat_lit 0))), (.str (sb [])), (.str (sb [])), (.str (sb [])), (.str (sb [])), (.int .i64 (.ofNat (nat_lit 0))), (.int .i64 (.ofNat (nat_lit 0))), (.int .i64 (.ofNat (nat_lit 0))), (.int .i64 (.ofNat (nat_lit 0))), (.int .i64 (.ofNat (nat_lit 0))), (.int .i64 (.ofNat (nat_lit 0))), (.int .i64 (.ofNat (nat_lit 0))), (.int .i64 (.ofNat (nat_lit 0))), (.bool false), (.int .i64 (.ofNat (nat_lit 0))), (.int .i64 (.ofNat (nat_lit 0))), (.int .i64 (.ofNat (nat_lit 0))), (.int .i64 (.ofNat (nat_lit 0))), (.int .i64 (.ofNat (nat_lit 0))), (.int .i64 (.ofNat (nat_lit 0))), (.int .i64 (.ofNat (nat_lit 0))), (.str (sb []))] [(0, 1), (3, 2), (5, 2)] [(.int .i64 (.ofNat (nat_lit 4))), x113, x115]) fun x116 =>
  bndC (f206 [x0, x111, x116] h) fun x117 h =>
  ret1 (.tuple []) h)
  (ret1 (.tuple []) h)
noncomputable def f135_1 (x0 : V) (x3 : V) (x4 : V) (x75 : V) (h : HT) : Option J := bndC (gsel x75 true (retV (kFa 0 [x4]) h) h) fun x89 h =>
  bndC (gsel x75 true (retV (qLd h none [x89]) h) h) fun x90 h =>
  bndC (gsel x75 true (retV (kBin .eql [x90, (.int .i64 (.ofNat (nat_lit 2)))]) h) h) fun x91 h =>
  bndV (kPick [x75, x91, (.bool false)]) fun x92 =>
  bndC (gsel x92 false (retV (kMov [x0]) h) h) fun x95 h =>
  bndC (gsel x92 false (retV (kFa 3 [x3]) h) h) fun x96 h =>
  bndC (gsel x92 false (retV (qLd h (some 2) [x96]) h) h) fun x97 h =>
  bndC (gsel x92 false (retV (kFa 5 [x3]) h) h) fun x98 h =>
  bndC (gsel x92 false (retV (qLd h (some 2) [x98]) h) h) fun x99 h =>
  bndC (gsel x92 false (retV (kFa 5 [x3]) h) h) fun x100 h =>
  bndC (gsel x92 false (retV (qLd h (some 2) [x100]) h) h) fun x101 h =>
  bndC (gsel x92 false (retV (kFa 7 [x3]) h) h) fun x102 h =>
  bndC (gsel x92 false (retV (qLd h (some 7) [x102]) h) h) fun x103 h =>
  bndC (gsel x92 false (retV (kFa 14 [x3]) h) h) fun x104 h =>
  (f135_0 x0 x3 x92 x95 x97 x99 x101 x103 x104 h)
noncomputable def f135_2 (j : Nat) (vs : List V) (h : HT) : Option J := nsw j (ret1 (.tuple []) h)
  fun j => unc vs fun x0 vs =>
  unc vs fun x3 vs =>
  unc vs fun x4 vs =>
  bndV (kFa 1 [x3]) fun x135 =>
  bndV (qLd h none [x135]) fun x136 =>
  bndV (kFa 3 [x3]) fun x137 =>
  bndV (qLd h (some 2) [x137]) fun x138 =>
  bndV (kFa 5 [x3]) fun x139 =>
  bndV (qLd h (some 2) [x139]) fun x140 =>
  bndV (qLd h (some 21) [x4]) fun x141 =>
  bndV (kBld [(.int .i64 (.ofNat (nat_lit 0))), (.int .i64 (.ofNat (nat_lit 0))), (.int .i64 (.ofNat (nat_lit 0))), (.int .i64 (.ofNat (nat_lit 0))), (.int .i64 (.ofNat (nat_lit 0))), (.int .i64 (.ofNat (nat_lit 0))), (.int .i64 (.ofNat (nat_lit 0))), (.int .i64 (.ofNat (nat_lit 0))), (.int .i64 (.ofNat (nat_lit 0))), (.int .i64 (.ofNat (nat_lit 0))), (.str (sb [])), (.str (sb [])), (.str (sb [])), (.str (sb [])), (.int .i64 (.ofNat (nat_lit 0))), (.int .i64 (.ofNat (nat_lit 0))), (.int .i64 (.ofNat (nat_lit 0))), (.int .i64 (.ofNat (nat_lit 0))), (.int .i64 (.ofNat (nat_lit 0))), (.int .i64 (.ofNat (nat_lit 0))), (.int .i64 (.ofNat (nat_lit 0))), (.int .i64 (.ofNat (nat_lit 0))), (.int .i64 (.ofNat (nat_lit 0))), (.int .i64 (.ofNat (nat_lit 0))), (.int .i64 (.ofNat (nat_lit 0))), (.int .i64 (.ofNat (nat_lit 0))), (.int .i64 (.ofNat (nat_lit 0))), (.int .i64 (.ofNat (nat_lit 0))), (.int .i64 (.ofNat (nat_lit 0))), (.int .i64 (.ofNat (nat_lit 0))), (.str (sb [])), (.str (sb [])), (.str (sb [])), (.str (sb [])), (.int .i64 (.ofNat (nat_lit 0))), (.int .i64 (.ofNat (nat_lit 0))), (.int .i64 (.ofNat (nat_lit 0))), (.int .i64 (.ofNat (nat_lit 0))), (.int .i64 (.ofNat (nat_lit 0))), (.int .i64 (.ofNat (nat_lit 0))), (.int .i64 (.ofNat (nat_lit 0))), (.int .i64 (.ofNat (nat_lit 0))), (.bool false), (.int .i64 (.ofNat (nat_lit 0))), (.int .i64 (.ofNat (nat_lit 0))), (.int .i64 (.ofNat (nat_lit 0))), (.int .i64 (.ofNat (nat_lit 0))), (.int .i64 (.ofNat (nat_lit 0))), (.int .i64 (.ofNat (nat_lit 0))), (.int .i64 (.ofNat (nat_lit 0))), (.str (sb []))] [(0, 1), (3, 2), (5, 2), (22, 21)] [(.int .i64 (.ofNat (nat_lit 7))), x138, x140, x141]) fun x142 =>
  bndC (f206 [x0, x136, x142] h) fun x143 h =>
  ret1 (.tuple []) h
noncomputable def f135_3 (x0 : V) (x3 : V) (x4 : V) (x124 : V) (h : HT) : Option J := bndJ (tstv x124 (bndV (kFa 5 [x3]) fun x125 =>
  bndV (qLd h (some 2) [x125]) fun x126 =>
  bndV (kFa 1 [x4]) fun x127 =>
  bndE (dSt h 2 [x127, x126]) h fun _ h =>
  bndV (kFa 3 [x3]) fun x129 =>
  bndV (qLd h (some 2) [x129]) fun x130 =>
  bndV (qLd h (some 21) [x4]) fun x131 =>
  bndC (f122 [x0, x130, x131] h) fun x132 h =>
  bndV (kUn .not [x132]) fun x133 =>
  tstv x133 (some ⟨0, [], h⟩)
  (some ⟨1, [x0, x3, x4], h⟩))
  (some ⟨1, [x0, x3, x4], h⟩))
  fun j vs h => (f135_2 j vs h)
noncomputable def f135_4 (x0 : V) (x3 : V) (x4 : V) (x75 : V) (x77 : V) (x79 : V) (h : HT) : Option J := tstv x79 (bndV (qLd h (some 51) [x3]) fun x81 =>
  bndV (qLd h (some 21) [x4]) fun x82 =>
  bndC (f209 [x0, x81, x82, x75] h) fun x84 h =>
  ret1 (.tuple []) h)
  (bndV (kBin .eql [x77, (.int .i64 (.ofNat (nat_lit 3)))]) fun x86 =>
  tstv x86 ((f135_1 x0 x3 x4 x75 h))
  (bndV (kBin .eql [x77, (.int .i64 (.ofNat (nat_lit 6)))]) fun x119 =>
  tstv x119 (bndV (kFa 1 [x4]) fun x120 =>
  bndV (qLd h (some 2) [x120]) fun x121 =>
  bndV (kFa 5 [x3]) fun x122 =>
  bndV (qLd h (some 2) [x122]) fun x123 =>
  bndV (kEqF true [.i, .i] [x121, x123]) fun x124 =>
  (f135_3 x0 x3 x4 x124 h))
  (ret1 (.tuple []) h)))
noncomputable def f135_5 (x0 : V) (vs : List V) (h : HT) : Option J := unc vs fun x3 vs =>
  unc vs fun x4 vs =>
  bndV (kFa 0 [x4]) fun x66 =>
  bndV (qLd h none [x66]) fun x67 =>
  bndV (kBin .neq [x67, (.int .i64 (.ofNat (nat_lit 0)))]) fun x68 =>
  bndC (gsel x68 true (retV (kFa 3 [x4]) h) h) fun x70 h =>
  bndC (gsel x68 true (retV (qLd h (some 2) [x70]) h) h) fun x71 h =>
  bndC (gsel x68 true (retV (kFa 5 [x3]) h) h) fun x72 h =>
  bndC (gsel x68 true (retV (qLd h (some 2) [x72]) h) h) fun x73 h =>
  bndC (gsel x68 true (retV (kEqF false [.i, .i] [x71, x73]) h) h) fun x74 h =>
  bndV (kPick [x68, x74, (.bool false)]) fun x75 =>
  bndV (kFa 0 [x3]) fun x76 =>
  bndV (qLd h none [x76]) fun x77 =>
  bndV (kBin .eql [x77, (.int .i64 (.ofNat (nat_lit 1)))]) fun x79 =>
  (f135_4 x0 x3 x4 x75 x77 x79 h)
noncomputable def f135_6 (x0 : V) (x3 : V) (x4 : V) (x52 : V) (x55 : V) (h : HT) : Option J := bndC (gsel x52 true (retV (kFa 3 [x55]) h) h) fun x56 h =>
  bndC (gsel x52 true (retV (qLd h (some 2) [x56]) h) h) fun x57 h =>
  bndC (gsel x52 true (retV (kFa 5 [x3]) h) h) fun x58 h =>
  bndC (gsel x52 true (retV (qLd h (some 2) [x58]) h) h) fun x59 h =>
  bndC (gsel x52 true (f204 [x57, x59] h) h) fun x60 h =>
  bndV (kPick [x52, x60, (.bool false)]) fun x61 =>
  bndJ (tstv x61 (bndV (kFa 3 [x3]) fun x63 =>
  bndV (qLd h (some 2) [x63]) fun x64 =>
  bndC (noF [x0, x64] h) fun x65 h =>
  some ⟨0, [x0, x3, x4], h⟩)
  (some ⟨0, [x0, x3, x4], h⟩))
  fun j vs h => unc vs fun x0 vs =>
  (f135_5 x0 vs h)
noncomputable def f135_7 (x0 : V) (x3 : V) (x4 : V) (x37 : V) (h : HT) : Option J := tstv x37 (bndV (kFa 1 [x3]) fun x39 =>
  bndV (qLd h none [x39]) fun x40 =>
  bndV (kFa 3 [x3]) fun x41 =>
  bndV (qLd h (some 2) [x41]) fun x42 =>
  bndV (kFa 1 [x4]) fun x43 =>
  bndV (qLd h (some 2) [x43]) fun x44 =>
  bndV (kBld [(.int .i64 (.ofNat (nat_lit 0))), (.int .i64 (.ofNat (nat_lit 0))), (.int .i64 (.ofNat (nat_lit 0))), (.int .i64 (.ofNat (nat_lit 0))), (.int .i64 (.ofNat (nat_lit 0))), (.int .i64 (.ofNat (nat_lit 0))), (.int .i64 (.ofNat (nat_lit 0))), (.int .i64 (.ofNat (nat_lit 0))), (.int .i64 (.ofNat (nat_lit 0))), (.int .i64 (.ofNat (nat_lit 0))), (.str (sb [])), (.str (sb [])), (.str (sb [])), (.str (sb [])), (.int .i64 (.ofNat (nat_lit 0))), (.int .i64 (.ofNat (nat_lit 0))), (.int .i64 (.ofNat (nat_lit 0))), (.int .i64 (.ofNat (nat_lit 0))), (.int .i64 (.ofNat (nat_lit 0))), (.int .i64 (.ofNat (nat_lit 0))), (.int .i64 (.ofNat (nat_lit 0))), (.int .i64 (.ofNat (nat_lit 0))), (.int .i64 (.ofNat (nat_lit 0))), (.int .i64 (.ofNat (nat_lit 0))), (.int .i64 (.ofNat (nat_lit 0))), (.int .i64 (.ofNat (nat_lit 0))), (.int .i64 (.ofNat (nat_lit 0))), (.int .i64 (.ofNat (nat_lit 0))), (.int .i64 (.ofNat (nat_lit 0))), (.int .i64 (.ofNat (nat_lit 0))), (.str (sb [])), (.str (sb [])), (.str (sb [])), (.str (sb [])), (.int .i64 (.ofNat (nat_lit 0))), (.int .i64 (.ofNat (nat_lit 0))), (.int .i64 (.ofNat (nat_lit 0))), (.int .i64 (.ofNat (nat_lit 0))), (.int .i64 (.ofNat (nat_lit 0))), (.int .i64 (.ofNat (nat_lit 0))), (.int .i64 (.ofNat (nat_lit 0))), (.int .i64 (.ofNat (nat_lit 0))), (.bool false), (.int .i64 (.ofNat (nat_lit 0))), (.int .i64 (.ofNat (nat_lit 0))), (.int .i64 (.ofNat (nat_lit 0))), (.int .i64 (.ofNat (nat_lit 0))), (.int .i64 (.ofNat (nat_lit 0))), (.int .i64 (.ofNat (nat_lit 0))), (.int .i64 (.ofNat (nat_lit 0))), (.str (sb []))] [(0, 1), (3, 2), (5, 2)] [(.int .i64 (.ofNat (nat_lit 8))), x42, x44]) fun x45 =>
  bndC (f206 [x0, x40, x45] h) fun x46 h =>
  ret1 (.tuple []) h)
  (bndV (kFa 3 [x3]) fun x48 =>
  bndV (qLd h (some 2) [x48]) fun x49 =>
  bndC (f207 [x0, x49] h) fun x50 h =>
  bndV (kEqN true [x50, (.ptr none)]) fun x52 =>
  bndC (gsel x52 true (retV (kMov [x50]) h) h) fun x54 h =>
  bndC (gsel x52 true (retV (kNilc [x54]) h) h) fun x55 h =>
  (f135_6 x0 x3 x4 x52 x55 h))
noncomputable def f135_8 (x0 : V) (x3 : V) (x4 : V) (x21 : V) (h : HT) : Option J := tstv x21 (bndV (kFa 1 [x3]) fun x23 =>
  bndV (qLd h none [x23]) fun x24 =>
  bndV (kFa 3 [x3]) fun x25 =>
  bndV (qLd h (some 2) [x25]) fun x26 =>
  bndV (kFa 5 [x4]) fun x27 =>
  bndV (qLd h (some 7) [x27]) fun x28 =>
  bndV (kFa 12 [x4]) fun x29 =>
  bndV (qLd h (some 8) [x29]) fun x30 =>
  bndV (kBld [(.int .i64 (.ofNat (nat_lit 0))), (.int .i64 (.ofNat (nat_lit 0))), (.int .i64 (.ofNat (nat_lit 0))), (.int .i64 (.ofNat (nat_lit 0))), (.int .i64 (.ofNat (nat_lit 0))), (.int .i64 (.ofNat (nat_lit 0))), (.int .i64 (.ofNat (nat_lit 0))), (.int .i64 (.ofNat (nat_lit 0))), (.int .i64 (.ofNat (nat_lit 0))), (.int .i64 (.ofNat (nat_lit 0))), (.str (sb [])), (.str (sb [])), (.str (sb [])), (.str (sb [])), (.int .i64 (.ofNat (nat_lit 0))), (.int .i64 (.ofNat (nat_lit 0))), (.int .i64 (.ofNat (nat_lit 0))), (.int .i64 (.ofNat (nat_lit 0))), (.int .i64 (.ofNat (nat_lit 0))), (.int .i64 (.ofNat (nat_lit 0))), (.int .i64 (.ofNat (nat_lit 0))), (.int .i64 (.ofNat (nat_lit 0))), (.int .i64 (.ofNat (nat_lit 0))), (.int .i64 (.ofNat (nat_lit 0))), (.int .i64 (.ofNat (nat_lit 0))), (.int .i64 (.ofNat (nat_lit 0))), (.int .i64 (.ofNat (nat_lit 0))), (.int .i64 (.ofNat (nat_lit 0))), (.int .i64 (.ofNat (nat_lit 0))), (.int .i64 (.ofNat (nat_lit 0))), (.str (sb [])), (.str (sb [])), (.str (sb [])), (.str (sb [])), (.int .i64 (.ofNat (nat_lit 0))), (.int .i64 (.ofNat (nat_lit 0))), (.int .i64 (.ofNat (nat_lit 0))), (.int .i64 (.ofNat (nat_lit 0))), (.int .i64 (.ofNat (nat_lit 0))), (.int .i64 (.ofNat (nat_lit 0))), (.int .i64 (.ofNat (nat_lit 0))), (.int .i64 (.ofNat (nat_lit 0))), (.bool false), (.int .i64 (.ofNat (nat_lit 0))), (.int .i64 (.ofNat (nat_lit 0))), (.int .i64 (.ofNat (nat_lit 0))), (.int .i64 (.ofNat (nat_lit 0))), (.int .i64 (.ofNat (nat_lit 0))), (.int .i64 (.ofNat (nat_lit 0))), (.int .i64 (.ofNat (nat_lit 0))), (.str (sb []))] [(0, 1), (3, 2), (7, 7), (14, 8)] [(.int .i64 (.ofNat (nat_lit 5))), x26, x28, x30]) fun x31 =>
  bndC (f206 [x0, x24, x31] h) fun x32 h =>
  ret1 (.tuple []) h)
  (bndV (kFa 5 [x3]) fun x33 =>
  bndV (qLd h (some 2) [x33]) fun x34 =>
  bndV (kFa 1 [x4]) fun x35 =>
  bndV (qLd h (some 2) [x35]) fun x36 =>
  bndC (f204 [x34, x36] h) fun x37 h =>
  (f135_7 x0 x3 x4 x37 h))
noncomputable def f135_9 (x0 : V) (x1 : V) (h : HT) : Option J := bndN (kBox [x1]) h fun x3 h =>
  bndV (kNilc [x0]) fun x11 =>
  bndV (kFa 2 [x11]) fun x12 =>
  bndV (qLd h none [x12]) fun x13 =>
  bndV (kFa 3 [x3]) fun x14 =>
  bndV (qLd h (some 2) [x14]) fun x15 =>
  bndN (kAlloc [(.int .i64 (.ofNat (nat_lit 0))), (.int .i64 (.ofNat (nat_lit 0))), (.int .i64 (.ofNat (nat_lit 0))), (.int .i64 (.ofNat (nat_lit 0))), (.int .i64 (.ofNat (nat_lit 0))), (.int .i64 (.ofNat (nat_lit 0))), (.int .i64 (.ofNat (nat_lit 0))), (.int .i64 (.ofNat (nat_lit 0))), (.str (sb [])), (.str (sb [])), (.str (sb [])), (.str (sb [])), (.int .i64 (.ofNat (nat_lit 0))), (.int .i64 (.ofNat (nat_lit 0))), (.int .i64 (.ofNat (nat_lit 0))), (.int .i64 (.ofNat (nat_lit 0))), (.int .i64 (.ofNat (nat_lit 0))), (.int .i64 (.ofNat (nat_lit 0))), (.int .i64 (.ofNat (nat_lit 0))), (.int .i64 (.ofNat (nat_lit 0))), (.bool false)] []) h fun x4 h =>
  bndC (f200 [x13, x15] h) fun x16 h =>
  bndV (kExt 0 [x16]) fun x17 =>
  bndV (kExt 1 [x16]) fun x18 =>
  bndE (dSt h 21 [x4, x17]) h fun _ h =>
  bndV (kFa 0 [x4]) fun x19 =>
  bndV (qLd h none [x19]) fun x20 =>
  bndV (kBin .eql [x20, (.int .i64 (.ofNat (nat_lit 3)))]) fun x21 =>
  (f135_8 x0 x3 x4 x21 h)
noncomputable def f135 (vs : List V) (h : HT) : Option J := unc vs fun x0 vs =>
  unc vs fun x1 vs =>
  (f135_9 x0 x1 h)
def a135 : List Ann := [.no, .no, .join [(.normal, [0, 3, 4])], .no, .no, .no, .no, .no, .join [(.ret, []), (.normal, [0, 3, 4])], .no]
theorem e135 : f135 = evFun Tryz.prog 135 2 a135 t135 := by kernel_rfl
theorem o135 : FnOk Tryz.prog 135 f135 := .of hmO (show enters Tryz.prog 135 = true by kernel_rfl) e135 (.cons o122 (.cons o200 (.cons o204 (.cons o206 (.cons o207 (.cons o209 (.nil)))))))

/- (*concord/core.Core).told -/
noncomputable def l136 : List (Nat × (List V → HT → Option J)) := [(122, f122), (200, f200), (208, f208)]
noncomputable def t136 : Fns := tab l136
noncomputable def f136_0 (x0 : V) (x3 : V) (x4 : V) (x20 : V) (h : HT) : Option J := bndV (qLd h (some 2) [x20]) fun x21 =>
  bndC (f208 [x0, x21] h) fun x22 h =>
  bndV (kFa 3 [x3]) fun x24 =>
  bndV (qLd h (some 2) [x24]) fun x25 =>
  bndV (kFa 1 [x4]) fun x26 =>
  bndV (qLd h (some 2) [x26]) fun x27 =>
  bndV (kFa 3 [x4]) fun x28 =>
  bndV (qLd h (some 2) [x28]) fun x29 =>
  bndV (kFa 7 [x3]) fun x30 =>
  bndV (qLd h (some 7) [x30]) fun x31 =>
  bndV (kFa 14 [x3]) fun x32 =>
  bndV (qLd h (some 8) [x32]) fun x33 =>
  bndV (kBld [(.int .i64 (.ofNat (nat_lit 0))), (.int .i64 (.ofNat (nat_lit 0))), (.int .i64 (.ofNat (nat_lit 0))), (.int .i64 (.ofNat (nat_lit 0))), (.int .i64 (.ofNat (nat_lit 0))), (.int .i64 (.ofNat (nat_lit 0))), (.int .i64 (.ofNat (nat_lit 0))), (.int .i64 (.ofNat (nat_lit 0))), (.str (sb [])), (.str (sb [])), (.str (sb [])), (.str (sb [])), (.int .i64 (.ofNat (nat_lit 0))), (.int .i64 (.ofNat (nat_lit 0))), (.int .i64 (.ofNat (nat_lit 0))), (.int .i64 (.ofNat (nat_lit 0))), (.int .i64 (.ofNat (nat_lit 0))), (.int .i64 (.ofNat (nat_lit 0))), (.int .i64 (.ofNat (nat_lit 0))), (.int .i64 (.ofNat (nat_lit 0))), (.bool false)] [(0, 1), (1, 2), (3, 2), (5, 7), (12, 8)] [(.int .i64 (.ofNat (nat_lit 3))), x27, x29, x31, x33]) fun x34 =>
  bndC (f122 [x0, x25, x34] h) fun x35 h =>
  ret1 (.tuple []) h
noncomputable def f136_1 (x0 : V) (x3 : V) (x9 : V) (h : HT) : Option J := bndV (qLd h none [x9]) fun x10 =>
  bndV (kFa 3 [x3]) fun x11 =>
  bndV (qLd h (some 2) [x11]) fun x12 =>
  bndN (kAlloc [(.int .i64 (.ofNat (nat_lit 0))), (.int .i64 (.ofNat (nat_lit 0))), (.int .i64 (.ofNat (nat_lit 0))), (.int .i64 (.ofNat (nat_lit 0))), (.int .i64 (.ofNat (nat_lit 0))), (.int .i64 (.ofNat (nat_lit 0))), (.int .i64 (.ofNat (nat_lit 0))), (.int .i64 (.ofNat (nat_lit 0))), (.str (sb [])), (.str (sb [])), (.str (sb [])), (.str (sb [])), (.int .i64 (.ofNat (nat_lit 0))), (.int .i64 (.ofNat (nat_lit 0))), (.int .i64 (.ofNat (nat_lit 0))), (.int .i64 (.ofNat (nat_lit 0))), (.int .i64 (.ofNat (nat_lit 0))), (.int .i64 (.ofNat (nat_lit 0))), (.int .i64 (.ofNat (nat_lit 0))), (.int .i64 (.ofNat (nat_lit 0))), (.bool false)] []) h fun x4 h =>
  bndC (f200 [x10, x12] h) fun x13 h =>
  bndV (kExt 0 [x13]) fun x14 =>
  bndV (kExt 1 [x13]) fun x15 =>
  bndE (dSt h 21 [x4, x14]) h fun _ h =>
  bndV (kFa 0 [x4]) fun x16 =>
  bndV (qLd h none [x16]) fun x17 =>
  bndV (kBin .eql [x17, (.int .i64 (.ofNat (nat_lit 3)))]) fun x18 =>
  tstv x18 (ret1 (.tuple []) h)
  (bndV (kFa 3 [x3]) fun x20 =>
  (f136_0 x0 x3 x4 x20 h))
noncomputable def f136 (vs : List V) (h : HT) : Option J := unc vs fun x0 vs =>
  unc vs fun x1 vs =>
  bndN (kBox [x1]) h fun x3 h =>
  bndV (kNilc [x0]) fun x8 =>
  bndV (kFa 2 [x8]) fun x9 =>
  (f136_1 x0 x3 x9 h)
def a136 : List Ann := [.no]
theorem e136 : f136 = evFun Tryz.prog 136 2 a136 t136 := by kernel_rfl
theorem o136 : FnOk Tryz.prog 136 f136 := .of hmO (show enters Tryz.prog 136 = true by kernel_rfl) e136 (.cons o122 (.cons o200 (.cons o208 (.nil))))

/- (*concord/core.Core).commit -/
noncomputable def l213 : List (Nat × (List V → HT → Option J)) := [(122, f122), (200, f200), (202, f202), (208, f208)]
noncomputable def t213 : Fns := tab l213
noncomputable def f213_0 (x0 : V) (x5 : V) (x6 : V) (x7 : V) (x8 : V) (x23 : V) (x25 : V) (h : HT) : Option J := bndV (kFa 3 [x8]) fun x26 =>
  bndV (qLd h (some 2) [x26]) fun x27 =>
  bndV (qLd h (some 7) [x6]) fun x28 =>
  bndV (qLd h (some 8) [x7]) fun x29 =>
  bndV (kBld [(.int .i64 (.ofNat (nat_lit 0))), (.int .i64 (.ofNat (nat_lit 0))), (.int .i64 (.ofNat (nat_lit 0))), (.int .i64 (.ofNat (nat_lit 0))), (.int .i64 (.ofNat (nat_lit 0))), (.int .i64 (.ofNat (nat_lit 0))), (.int .i64 (.ofNat (nat_lit 0))), (.int .i64 (.ofNat (nat_lit 0))), (.str (sb [])), (.str (sb [])), (.str (sb [])), (.str (sb [])), (.int .i64 (.ofNat (nat_lit 0))), (.int .i64 (.ofNat (nat_lit 0))), (.int .i64 (.ofNat (nat_lit 0))), (.int .i64 (.ofNat (nat_lit 0))), (.int .i64 (.ofNat (nat_lit 0))), (.int .i64 (.ofNat (nat_lit 0))), (.int .i64 (.ofNat (nat_lit 0))), (.int .i64 (.ofNat (nat_lit 0))), (.bool false)] [(0, 1), (1, 2), (3, 2), (5, 7), (12, 8)] [(.int .i64 (.ofNat (nat_lit 3))), x25, x27, x28, x29]) fun x30 =>
  bndC (f122 [x0, x23, x30] h) fun x31 h =>
  tstv x31 (bndV (qLd h (some 2) [x5]) fun x33 =>
  bndV (qLd h (some 7) [x6]) fun x34 =>
  bndV (qLd h (some 8) [x7]) fun x35 =>
  bndV (kBld [(.int .i64 (.ofNat (nat_lit 0))), (.int .i64 (.ofNat (nat_lit 0))), (.int .i64 (.ofNat (nat_lit 0))), (.int .i64 (.ofNat (nat_lit 0))), (.int .i64 (.ofNat (nat_lit 0))), (.int .i64 (.ofNat (nat_lit 0))), (.int .i64 (.ofNat (nat_lit 0))), (.int .i64 (.ofNat (nat_lit 0))), (.int .i64 (.ofNat (nat_lit 0))), (.int .i64 (.ofNat (nat_lit 0))), (.str (sb [])), (.str (sb [])), (.str (sb [])), (.str (sb [])), (.int .i64 (.ofNat (nat_lit 0))), (.int .i64 (.ofNat (nat_lit 0))), (.int .i64 (.ofNat (nat_lit 0))), (.int .i64 (.ofNat (nat_lit 0))), (.int .i64 (.ofNat (nat_lit 0))), (.int .i64 (.ofNat (nat_lit 0))), (.int .i64 (.ofNat (nat_lit 0))), (.int .i64 (.ofNat (nat_lit 0))), (.int .i64 (.ofNat (nat_lit 0))), (.int .i64 (.ofNat (nat_lit 0))), (.int .i64 (.ofNat (nat_lit 0))), (.int .i64 (.ofNat (nat_lit 0))), (.int .i64 (.ofNat (nat_lit 0))), (.int .i64 (.ofNat (nat_lit 0))), (.int .i64 (.ofNat (nat_lit 0))), (.int .i64 (.ofNat (nat_lit 0))), (.str (sb [])), (.str (sb [])), (.str (sb [])), (.str (sb [])), (.int .i64 (.ofNat (nat_lit 0))), (.int .i64 (.ofNat (nat_lit 0))), (.int .i64 (.ofNat (nat_lit 0))), (.int .i64 (.ofNat (nat_lit 0))), (.int .i64 (.ofNat (nat_lit 0))), (.int .i64 (.ofNat (nat_lit 0))), (.int .i64 (.ofNat (nat_lit 0))), (.int .i64 (.ofNat (nat_lit 0))), (.bool false), (.int .i64 (.ofNat (nat_lit 0))), (.int .i64 (.ofNat (nat_lit 0))), (.int .i64 (.ofNat (nat_lit 0))), (.int .i64 (.ofNat (nat_lit 0))), (.int .i64 (.ofNat (nat_lit 0))), (.int .i64 (.ofNat (nat_lit 0))), (.int .i64 (.ofNat (nat_lit 0))), (.str (sb []))] [(0, 1), (3, 2), (7, 7), (14, 8)] [(.int .i64 (.ofNat (nat_lit 5))), x33, x34, x35]) fun x36 =>
  bndV (kBld [(.int .i64 (.ofNat (nat_lit 0))), (.int .i64 (.ofNat (nat_lit 0))), (.int .i64 (.ofNat (nat_lit 0))), (.int .i64 (.ofNat (nat_lit 0))), (.int .i64 (.ofNat (nat_lit 0))), (.int .i64 (.ofNat (nat_lit 0))), (.int .i64 (.ofNat (nat_lit 0)))] [] []) fun x37 =>
  bndC (f202 [x0, x36, x37] h) fun x38 h =>
  ret1 (.tuple []) h)
  (ret1 (.tuple []) h)
noncomputable def f213_1 (x0 : V) (x5 : V) (x6 : V) (x7 : V) (h : HT) : Option J := bndV (qLd h (some 2) [x5]) fun x11 =>
  bndC (f208 [x0, x11] h) fun x12 h =>
  bndV (kNilc [x0]) fun x15 =>
  bndV (kFa 2 [x15]) fun x16 =>
  bndV (qLd h none [x16]) fun x17 =>
  bndV (qLd h (some 2) [x5]) fun x18 =>
  bndN (kAlloc [(.int .i64 (.ofNat (nat_lit 0))), (.int .i64 (.ofNat (nat_lit 0))), (.int .i64 (.ofNat (nat_lit 0))), (.int .i64 (.ofNat (nat_lit 0))), (.int .i64 (.ofNat (nat_lit 0))), (.int .i64 (.ofNat (nat_lit 0))), (.int .i64 (.ofNat (nat_lit 0))), (.int .i64 (.ofNat (nat_lit 0))), (.str (sb [])), (.str (sb [])), (.str (sb [])), (.str (sb [])), (.int .i64 (.ofNat (nat_lit 0))), (.int .i64 (.ofNat (nat_lit 0))), (.int .i64 (.ofNat (nat_lit 0))), (.int .i64 (.ofNat (nat_lit 0))), (.int .i64 (.ofNat (nat_lit 0))), (.int .i64 (.ofNat (nat_lit 0))), (.int .i64 (.ofNat (nat_lit 0))), (.int .i64 (.ofNat (nat_lit 0))), (.bool false)] []) h fun x8 h =>
  bndC (f200 [x17, x18] h) fun x19 h =>
  bndV (kExt 0 [x19]) fun x20 =>
  bndV (kExt 1 [x19]) fun x21 =>
  bndE (dSt h 21 [x8, x20]) h fun _ h =>
  bndV (qLd h (some 2) [x5]) fun x23 =>
  bndV (kFa 1 [x8]) fun x24 =>
  bndV (qLd h (some 2) [x24]) fun x25 =>
  (f213_0 x0 x5 x6 x7 x8 x23 x25 h)
noncomputable def f213 (vs : List V) (h : HT) : Option J := unc vs fun x0 vs =>
  unc vs fun x1 vs =>
  unc vs fun x2 vs =>
  unc vs fun x3 vs =>
  bndN (kBox [x1]) h fun x5 h =>
  bndN (kBox [x2]) h fun x6 h =>
  bndN (kBox [x3]) h fun x7 h =>
  (f213_1 x0 x5 x6 x7 h)
def a213 : List Ann := [.no]
theorem e213 : f213 = evFun Tryz.prog 213 4 a213 t213 := by kernel_rfl
theorem o213 : FnOk Tryz.prog 213 f213 := .of hmO (show enters Tryz.prog 213 = true by kernel_rfl) e213 (.cons o122 (.cons o200 (.cons o202 (.cons o208 (.nil)))))

/- concord/quorum.Slow -/
noncomputable def l212 : List (Nat × (List V → HT → Option J)) := []
noncomputable def t212 : Fns := tab l212

noncomputable def f212 (vs : List V) (h : HT) : Option J := unc vs fun x0 vs =>
  bndV (kBin .quo [x0, (.int .i64 (.ofNat (nat_lit 2)))]) fun x4 =>
  bndV (kBin .add [x4, (.int .i64 (.ofNat (nat_lit 1)))]) fun x5 =>
  ret1 x5 h
def a212 : List Ann := []
theorem e212 : f212 = evFun Tryz.prog 212 1 a212 t212 := by kernel_rfl
theorem o212 : FnOk Tryz.prog 212 f212 := .of hmO (show enters Tryz.prog 212 = true by kernel_rfl) e212 (.nil)

/- concord/quorum.Fast -/
noncomputable def l320 : List (Nat × (List V → HT → Option J)) := []
noncomputable def t320 : Fns := tab l320

noncomputable def f320 (vs : List V) (h : HT) : Option J := unc vs fun x0 vs =>
  bndV (kBin .sub [x0, (.int .i64 (.ofNat (nat_lit 1)))]) fun x4 =>
  ret1 x4 h
def a320 : List Ann := []
theorem e320 : f320 = evFun Tryz.prog 320 1 a320 t320 := by kernel_rfl
theorem o320 : FnOk Tryz.prog 320 f320 := .of hmO (show enters Tryz.prog 320 = true by kernel_rfl) e320 (.nil)

/- concord/quorum.Pre -/
noncomputable def l271 : List (Nat × (List V → HT → Option J)) := [(212, f212), (270, f270), (320, f320)]
noncomputable def t271 : Fns := tab l271
noncomputable def f271_0 (rc : List V → HT → Option J) (x0 : V) (x1 : V) (x3 : V) (x4 : V) (x7 : V) (x11 : V) (x12 : V) (x15 : V) (x16 : V) (x17 : V) (x23 : V) (h : HT) : Option J := bndJ (tstv x23 (bndV (kBin .add [x12, (.int .i64 (.ofNat (nat_lit 1)))]) fun x25 =>
  some ⟨0, [x0, x1, x3, x4, x7, x11, x25, x15, x16, x17], h⟩)
  (some ⟨0, [x0, x1, x3, x4, x7, x11, x12, x15, x16, x17], h⟩))
  fun j vs h => unc vs fun x0 vs =>
  unc vs fun x1 vs =>
  unc vs fun x3 vs =>
  unc vs fun x4 vs =>
  unc vs fun x7 vs =>
  unc vs fun x11 vs =>
  unc vs fun x12 vs =>
  unc vs fun x15 vs =>
  unc vs fun x16 vs =>
  unc vs fun x17 vs =>
  bndV (kBin .add [x17, (.int .i64 (.ofNat (nat_lit 1)))]) fun x26 =>
  rc [x0, x1, x3, x4, x7, x11, x12, x15, x16, x26] h
noncomputable def f271_1 (rc : List V → HT → Option J) (x0 : V) (x1 : V) (x3 : V) (x4 : V) (x7 : V) (x11 : V) (vs : List V) (h : HT) : Option J := unc vs fun x12 vs =>
  unc vs fun x15 vs =>
  unc vs fun x16 vs =>
  unc vs fun x17 vs =>
  bndV (kBin .lss [x17, x16]) fun x18 =>
  tstv x18 (bndV (kIaS 8 [x15, x17]) fun x19 =>
  bndV (qLd h (some 8) [x19]) fun x20 =>
  bndN (kAlloc [(.int .i64 (.ofNat (nat_lit 0))), (.int .i64 (.ofNat (nat_lit 0))), (.int .i64 (.ofNat (nat_lit 0))), (.int .i64 (.ofNat (nat_lit 0))), (.int .i64 (.ofNat (nat_lit 0))), (.int .i64 (.ofNat (nat_lit 0))), (.int .i64 (.ofNat (nat_lit 0))), (.int .i64 (.ofNat (nat_lit 0)))] []) h fun x14 h =>
  bndE (dSt h 8 [x14, x20]) h fun _ h =>
  bndV (qLd h (some 8) [x14]) fun x21 =>
  bndV (qLd h (some 8) [x7]) fun x22 =>
  bndV (kEqF false [.i, .i, .i, .i, .i, .i, .i, .i] [x21, x22]) fun x23 =>
  (f271_0 rc x0 x1 x3 x4 x7 x11 x12 x15 x16 x17 x23 h))
  (some ⟨0, [x0, x1, x3, x4, x7, x11, x12], h⟩)
noncomputable def f271_2 (x3 : V) (x7 : V) (x11 : V) (x41 : V) (x48 : V) (x52 : V) (h : HT) : Option J := bndC (gsel x48 true (retV (kBin .lss [x52, (.int .i64 (.ofNat (nat_lit 2)))]) h) h) fun x53 h =>
  bndC (gsel x41 false (retV (kPick [x48, x53, (.bool false)]) h) h) fun x54 h =>
  bndV (kPick [x41, (.bool true), x54]) fun x55 =>
  tstv x55 (bndV (kBld [(.int .i64 (.ofNat (nat_lit 0))), (.int .i64 (.ofNat (nat_lit 0))), (.int .i64 (.ofNat (nat_lit 0))), (.int .i64 (.ofNat (nat_lit 0))), (.int .i64 (.ofNat (nat_lit 0))), (.int .i64 (.ofNat (nat_lit 0))), (.int .i64 (.ofNat (nat_lit 0))), (.int .i64 (.ofNat (nat_lit 0)))] [] []) fun x56 =>
  bndE (dSt h 8 [x11, x56]) h fun _ h =>
  bndV (qLd h (some 8) [x11]) fun x900000 =>
  ret1 (.tuple [(.int .i64 (.ofNat (nat_lit 0))), x900000]) h)
  (bndV (qLd h (some 8) [x7]) fun x57 =>
  bndN (kBsl 8 1 [(.int .i64 (.ofNat (nat_lit 0))), (.int .i64 (.ofNat (nat_lit 0))), (.int .i64 (.ofNat (nat_lit 0))), (.int .i64 (.ofNat (nat_lit 0))), (.int .i64 (.ofNat (nat_lit 0))), (.int .i64 (.ofNat (nat_lit 0))), (.int .i64 (.ofNat (nat_lit 0))), (.int .i64 (.ofNat (nat_lit 0)))] [(0, 8)] [x57]) h fun x58 h =>
  bndE (dApp h 8 64 [x58, x3]) h fun x60 h =>
  bndC (f270 [x60] h) fun x61 h =>
  bndE (dSt h 8 [x11, x61]) h fun _ h =>
  bndV (qLd h (some 8) [x11]) fun x900000 =>
  ret1 (.tuple [(.int .i64 (.ofNat (nat_lit 2))), x900000]) h)
noncomputable def f271_3 (x0 : V) (x1 : V) (x3 : V) (x4 : V) (x7 : V) (x11 : V) (x12 : V) (h : HT) : Option J := bndV (kLenS [x3]) fun x37 =>
  bndC (f212 [x0] h) fun x39 h =>
  bndV (kBin .sub [x39, (.int .i64 (.ofNat (nat_lit 1)))]) fun x40 =>
  bndV (kBin .lss [x37, x40]) fun x41 =>
  bndC (gsel x41 false (retV (kMov [x1]) h) h) fun x43 h =>
  bndC (gsel x41 false (retV (kMov [x43]) h) h) fun x44 h =>
  bndC (gsel x44 true (retV (kMov [x4]) h) h) fun x45 h =>
  bndC (gsel x44 true (retV (kUn .not [x45]) h) h) fun x46 h =>
  bndC (gsel x41 false (retV (kPick [x44, x46, (.bool false)]) h) h) fun x47 h =>
  bndC (gsel x41 false (retV (kMov [x47]) h) h) fun x48 h =>
  bndC (gsel x48 true (retV (kMov [x3]) h) h) fun x49 h =>
  bndC (gsel x48 true (retV (kLenS [x49]) h) h) fun x50 h =>
  bndC (gsel x48 true (retV (kMov [x12]) h) h) fun x51 h =>
  bndC (gsel x48 true (retV (kBin .sub [x50, x51]) h) h) fun x52 h =>
  (f271_2 x3 x7 x11 x41 x48 x52 h)
noncomputable def f271_4 (x0 : V) (x1 : V) (x3 : V) (x4 : V) (vs : List V) (h : HT) : Option J := unc vs fun x7 vs =>
  unc vs fun x11 vs =>
  unc vs fun x12 vs =>
  bndC (gsel x1 true (retV (kMov [x12]) h) h) fun x29 h =>
  bndC (gsel x1 true (retV (kMov [x0]) h) h) fun x30 h =>
  bndC (gsel x1 true (f320 [x30] h) h) fun x31 h =>
  bndC (gsel x1 true (retV (kBin .sub [x31, (.int .i64 (.ofNat (nat_lit 1)))]) h) h) fun x32 h =>
  bndC (gsel x1 true (retV (kBin .geq [x29, x32]) h) h) fun x33 h =>
  bndV (kPick [x1, x33, (.bool false)]) fun x34 =>
  tstv x34 (bndV (qLd h (some 8) [x7]) fun x35 =>
  bndE (dSt h 8 [x11, x35]) h fun _ h =>
  bndV (qLd h (some 8) [x11]) fun x900000 =>
  ret1 (.tuple [(.int .i64 (.ofNat (nat_lit 1))), x900000]) h)
  ((f271_3 x0 x1 x3 x4 x7 x11 x12 h))
noncomputable def f271_5 (x0 : V) (x1 : V) (x3 : V) (x4 : V) (x7 : V) (x11 : V) (h : HT) : Option J := bndV (kLenS [x3]) fun x16 =>
  bndJ (loopF (fun rc vs h => unc vs fun x0 vs =>
  unc vs fun x1 vs =>
  unc vs fun x3 vs =>
  unc vs fun x4 vs =>
  unc vs fun x7 vs =>
  unc vs fun x11 vs =>
  (f271_1 rc x0 x1 x3 x4 x7 x11 vs h)) 1000000 [x0, x1, x3, x4, x7, x11, (.int .i64 (.ofNat (nat_lit 0))), x3, x16, (.int .i64 (.ofNat (nat_lit 0)))] h)
  fun j vs h => unc vs fun x0 vs =>
  unc vs fun x1 vs =>
  unc vs fun x3 vs =>
  unc vs fun x4 vs =>
  (f271_4 x0 x1 x3 x4 vs h)
noncomputable def f271 (vs : List V) (h : HT) : Option J := unc vs fun x0 vs =>
  unc vs fun x1 vs =>
  unc vs fun x2 vs =>
  unc vs fun x3 vs =>
  unc vs fun x4 vs =>
  bndN (kBox [x2]) h fun x7 h =>
  bndN (kAlloc [(.int .i64 (.ofNat (nat_lit 0))), (.int .i64 (.ofNat (nat_lit 0))), (.int .i64 (.ofNat (nat_lit 0))), (.int .i64 (.ofNat (nat_lit 0))), (.int .i64 (.ofNat (nat_lit 0))), (.int .i64 (.ofNat (nat_lit 0))), (.int .i64 (.ofNat (nat_lit 0))), (.int .i64 (.ofNat (nat_lit 0)))] []) h fun x11 h =>
  (f271_5 x0 x1 x3 x4 x7 x11 h)
def a271 : List Ann := [.no, .loop [0, 1, 3, 4, 7, 11, 12, 15, 16, 17] [((.exit 0), [0, 1, 3, 4, 7, 11, 12])], .no, .no, .join [(.normal, [0, 1, 3, 4, 7, 11, 12, 15, 16, 17])], .no, .no]
theorem e271 : f271 = evFun Tryz.prog 271 5 a271 t271 := by kernel_rfl
theorem o271 : FnOk Tryz.prog 271 f271 := .of hmO (show enters Tryz.prog 271 = true by kernel_rfl) e271 (.cons o212 (.cons o270 (.cons o320 (.nil))))

/- (*concord/core.Core).accept -/
noncomputable def l272 : List (Nat × (List V → HT → Option J)) := [(99, f99), (122, f122), (123, f123)]
noncomputable def t272 : Fns := tab l272
noncomputable def f272_0 (x0 : V) (x1 : V) (x6 : V) (x7 : V) (x30 : V) (h : HT) : Option J := tstv x30 (bndV (kNilc [x1]) fun x33 =>
  bndV (kFa 0 [x33]) fun x34 =>
  bndV (qLd h (some 2) [x34]) fun x35 =>
  bndC (noF [x0, x35] h) fun x36 h =>
  ret1 (.tuple []) h)
  (bndV (kNilc [x1]) fun x39 =>
  bndV (kFa 0 [x39]) fun x40 =>
  bndV (qLd h (some 2) [x40]) fun x41 =>
  bndV (kNilc [x1]) fun x43 =>
  bndV (kFa 3 [x43]) fun x44 =>
  bndV (qLd h (some 2) [x44]) fun x45 =>
  bndV (qLd h (some 7) [x6]) fun x46 =>
  bndV (qLd h (some 8) [x7]) fun x47 =>
  bndV (kBld [(.int .i64 (.ofNat (nat_lit 0))), (.int .i64 (.ofNat (nat_lit 0))), (.int .i64 (.ofNat (nat_lit 0))), (.int .i64 (.ofNat (nat_lit 0))), (.int .i64 (.ofNat (nat_lit 0))), (.bool false), (.int .i64 (.ofNat (nat_lit 0))), (.int .i64 (.ofNat (nat_lit 0))), (.int .i64 (.ofNat (nat_lit 0))), (.str (sb [])), (.str (sb [])), (.str (sb [])), (.str (sb [])), (.int .i64 (.ofNat (nat_lit 0))), (.int .i64 (.ofNat (nat_lit 0))), (.int .i64 (.ofNat (nat_lit 0))), (.int .i64 (.ofNat (nat_lit 0))), (.int .i64 (.ofNat (nat_lit 0))), (.int .i64 (.ofNat (nat_lit 0))), (.int .i64 (.ofNat (nat_lit 0))), (.int .i64 (.ofNat (nat_lit 0))), (.int .i64 (.ofNat (nat_lit 0))), (.int .i64 (.ofNat (nat_lit 0))), (.int .i64 (.ofNat (nat_lit 0))), (.int .i64 (.ofNat (nat_lit 0))), (.int .i64 (.ofNat (nat_lit 0))), (.int .i64 (.ofNat (nat_lit 0))), (.int .i64 (.ofNat (nat_lit 0))), (.slice none 0 true 0), (.slice none 0 true 0), (.int .i64 (.ofNat (nat_lit 0))), (.int .i64 (.ofNat (nat_lit 0)))] [(0, 2), (2, 1), (3, 2), (6, 7), (13, 8)] [x41, (.int .i64 (.ofNat (nat_lit 1))), x45, x46, x47]) fun x48 =>
  bndN (kBox [x48]) h fun x49 h =>
  bndC (f123 [x0, x49] h) fun x50 h =>
  ret1 (.tuple []) h)
noncomputable def f272_1 (x0 : V) (x1 : V) (x6 : V) (x7 : V) (x10 : V) (x12 : V) (x16 : V) (h : HT) : Option J := bndC (gsel x10 false (retV (kMov [x1]) h) h) fun x17 h =>
  bndC (gsel x10 false (retV (kNilc [x17]) h) h) fun x18 h =>
  bndC (gsel x10 false (retV (kFa 3 [x18]) h) h) fun x19 h =>
  bndC (gsel x10 false (retV (qLd h (some 2) [x19]) h) h) fun x20 h =>
  bndC (gsel x10 false (retV (kMov [x1]) h) h) fun x21 h =>
  bndC (gsel x10 false (retV (kNilc [x21]) h) h) fun x22 h =>
  bndC (gsel x10 false (retV (kFa 3 [x22]) h) h) fun x23 h =>
  bndC (gsel x10 false (retV (qLd h (some 2) [x23]) h) h) fun x24 h =>
  bndC (gsel x10 false (retV (qLd h (some 7) [x6]) h) h) fun x25 h =>
  bndC (gsel x10 false (retV (qLd h (some 8) [x7]) h) h) fun x26 h =>
  bndC (gsel x10 false (retV (kBld [(.int .i64 (.ofNat (nat_lit 0))), (.int .i64 (.ofNat (nat_lit 0))), (.int .i64 (.ofNat (nat_lit 0))), (.int .i64 (.ofNat (nat_lit 0))), (.int .i64 (.ofNat (nat_lit 0))), (.int .i64 (.ofNat (nat_lit 0))), (.int .i64 (.ofNat (nat_lit 0))), (.int .i64 (.ofNat (nat_lit 0))), (.str (sb [])), (.str (sb [])), (.str (sb [])), (.str (sb [])), (.int .i64 (.ofNat (nat_lit 0))), (.int .i64 (.ofNat (nat_lit 0))), (.int .i64 (.ofNat (nat_lit 0))), (.int .i64 (.ofNat (nat_lit 0))), (.int .i64 (.ofNat (nat_lit 0))), (.int .i64 (.ofNat (nat_lit 0))), (.int .i64 (.ofNat (nat_lit 0))), (.int .i64 (.ofNat (nat_lit 0))), (.bool false)] [(0, 1), (1, 2), (3, 2), (5, 7), (12, 8)] [(.int .i64 (.ofNat (nat_lit 2))), x20, x24, x25, x26]) h) h) fun x27 h =>
  bndC (gsel x10 false (f122 [x12, x16, x27] h) h) fun x28 h =>
  bndC (gsel x10 false (retV (kUn .not [x28]) h) h) fun x29 h =>
  bndV (kPick [x10, (.bool true), x29]) fun x30 =>
  (f272_0 x0 x1 x6 x7 x30 h)
noncomputable def f272 (vs : List V) (h : HT) : Option J := unc vs fun x0 vs =>
  unc vs fun x1 vs =>
  unc vs fun x2 vs =>
  unc vs fun x3 vs =>
  bndN (kBox [x2]) h fun x6 h =>
  bndN (kBox [x3]) h fun x7 h =>
  bndV (qLd h (some 8) [x7]) fun x8 =>
  bndC (f99 [x8] h) fun x9 h =>
  bndV (kUn .not [x9]) fun x10 =>
  bndC (gsel x10 false (retV (kMov [x0]) h) h) fun x12 h =>
  bndC (gsel x10 false (retV (kMov [x1]) h) h) fun x13 h =>
  bndC (gsel x10 false (retV (kNilc [x13]) h) h) fun x14 h =>
  bndC (gsel x10 false (retV (kFa 0 [x14]) h) h) fun x15 h =>
  bndC (gsel x10 false (retV (qLd h (some 2) [x15]) h) h) fun x16 h =>
  (f272_1 x0 x1 x6 x7 x10 x12 x16 h)
def a272 : List Ann := [.no]
theorem e272 : f272 = evFun Tryz.prog 272 4 a272 t272 := by kernel_rfl
theorem o272 : FnOk Tryz.prog 272 f272 := .of hmO (show enters Tryz.prog 272 = true by kernel_rfl) e272 (.cons o99 (.cons o122 (.cons o123 (.nil))))

/- (*concord/core.Core).weigh -/
noncomputable def l211 : List (Nat × (List V → HT → Option J)) := [(213, f213), (271, f271), (272, f272)]
noncomputable def t211 : Fns := tab l211
noncomputable def f211_0 (x0 : V) (x1 : V) (x8 : V) (x28 : V) (x32 : V) (h : HT) : Option J := tstv x32 (bndV (kNilc [x1]) fun x35 =>
  bndV (kFa 0 [x35]) fun x36 =>
  bndV (qLd h (some 2) [x36]) fun x37 =>
  bndV (kNilc [x1]) fun x39 =>
  bndV (kFa 6 [x39]) fun x40 =>
  bndV (qLd h (some 7) [x40]) fun x41 =>
  bndV (qLd h (some 8) [x8]) fun x42 =>
  bndC (f213 [x0, x37, x41, x42] h) fun x43 h =>
  ret1 (.bool true) h)
  (bndV (kBin .eql [x28, (.int .i64 (.ofNat (nat_lit 2)))]) fun x45 =>
  tstv x45 (bndV (kNilc [x1]) fun x49 =>
  bndV (kFa 6 [x49]) fun x50 =>
  bndV (qLd h (some 7) [x50]) fun x51 =>
  bndV (qLd h (some 8) [x8]) fun x52 =>
  bndC (f272 [x0, x1, x51, x52] h) fun x53 h =>
  ret1 (.bool true) h)
  (ret1 (.bool false) h))
noncomputable def f211_1 (x0 : V) (x1 : V) (x2 : V) (x13 : V) (x15 : V) (h : HT) : Option J := bndV (kFa 5 [x15]) fun x16 =>
  bndV (qLd h none [x16]) fun x17 =>
  bndV (kNilc [x1]) fun x19 =>
  bndV (kFa 13 [x19]) fun x20 =>
  bndV (qLd h (some 8) [x20]) fun x21 =>
  bndV (kNilc [x1]) fun x23 =>
  bndV (kFa 28 [x23]) fun x24 =>
  bndV (qLd h none [x24]) fun x25 =>
  bndN (kAlloc [(.int .i64 (.ofNat (nat_lit 0))), (.int .i64 (.ofNat (nat_lit 0))), (.int .i64 (.ofNat (nat_lit 0))), (.int .i64 (.ofNat (nat_lit 0))), (.int .i64 (.ofNat (nat_lit 0))), (.int .i64 (.ofNat (nat_lit 0))), (.int .i64 (.ofNat (nat_lit 0))), (.int .i64 (.ofNat (nat_lit 0)))] []) h fun x8 h =>
  bndC (f271 [x13, x17, x21, x25, x2] h) fun x27 h =>
  bndV (kExt 0 [x27]) fun x28 =>
  bndV (kExt 1 [x27]) fun x29 =>
  bndE (dSt h 8 [x8, x29]) h fun _ h =>
  bndV (kBin .eql [x28, (.int .i64 (.ofNat (nat_lit 1)))]) fun x32 =>
  (f211_0 x0 x1 x8 x28 x32 h)
noncomputable def f211 (vs : List V) (h : HT) : Option J := unc vs fun x0 vs =>
  unc vs fun x1 vs =>
  unc vs fun x2 vs =>
  bndV (kNilc [x0]) fun x11 =>
  bndV (kFa 0 [x11]) fun x12 =>
  bndV (qLd h none [x12]) fun x13 =>
  bndV (kNilc [x1]) fun x15 =>
  (f211_1 x0 x1 x2 x13 x15 h)
def a211 : List Ann := [.no, .no, .no]
theorem e211 : f211 = evFun Tryz.prog 211 3 a211 t211 := by kernel_rfl
theorem o211 : FnOk Tryz.prog 211 f211 := .of hmO (show enters Tryz.prog 211 = true by kernel_rfl) e211 (.cons o213 (.cons o271 (.cons o272 (.nil))))

/- concord/quorum.best -/
noncomputable def l321 : List (Nat × (List V → HT → Option J)) := [(204, f204)]
noncomputable def t321 : Fns := tab l321
noncomputable def f321_0 (rc : List V → HT → Option J) (x0 : V) (x1 : V) (x5 : V) (x8 : V) (x9 : V) (x10 : V) (x19 : V) (x23 : V) (x29 : V) (x32 : V) (h : HT) : Option J := bndC (gsel x23 false (f204 [x29, x32] h) h) fun x33 h =>
  bndC (gsel x19 true (retV (kPick [x23, (.bool true), x33]) h) h) fun x34 h =>
  bndV (kPick [x19, x34, (.bool false)]) fun x35 =>
  bndJ (tstv x35 (some ⟨0, [x0, x1, x10, x8, x9, x10], h⟩)
  (some ⟨0, [x0, x1, x5, x8, x9, x10], h⟩))
  fun j vs h => unc vs fun x0 vs =>
  unc vs fun x1 vs =>
  unc vs fun x5 vs =>
  unc vs fun x8 vs =>
  unc vs fun x9 vs =>
  unc vs fun x10 vs =>
  bndV (kBin .add [x10, (.int .i64 (.ofNat (nat_lit 1)))]) fun x37 =>
  rc [x0, x1, x5, x8, x9, x37] h
noncomputable def f321_1 (rc : List V → HT → Option J) (x0 : V) (x1 : V) (x5 : V) (x7 : V) (x8 : V) (x9 : V) (x10 : V) (x16 : V) (h : HT) : Option J := bndV (qLd h none [x16]) fun x17 =>
  bndV (kBin .eql [x17, x1]) fun x19 =>
  bndC (gsel x19 true (retV (kMov [x5]) h) h) fun x21 h =>
  bndC (gsel x19 true (retV (kBin .lss [x21, (.int .i64 (.ofNat (nat_lit 0)))]) h) h) fun x22 h =>
  bndC (gsel x19 true (retV (kMov [x22]) h) h) fun x23 h =>
  bndC (gsel x23 false (retV (kMov [x0]) h) h) fun x24 h =>
  bndC (gsel x23 false (retV (kMov [x5]) h) h) fun x25 h =>
  bndC (gsel x23 false (retV (kIaS 22 [x24, x25]) h) h) fun x26 h =>
  bndC (gsel x23 false (retV (kFa 1 [x26]) h) h) fun x27 h =>
  bndC (gsel x23 false (retV (kFa 3 [x27]) h) h) fun x28 h =>
  bndC (gsel x23 false (retV (qLd h (some 2) [x28]) h) h) fun x29 h =>
  bndC (gsel x23 false (retV (kFa 1 [x7]) h) h) fun x30 h =>
  bndC (gsel x23 false (retV (kFa 3 [x30]) h) h) fun x31 h =>
  bndC (gsel x23 false (retV (qLd h (some 2) [x31]) h) h) fun x32 h =>
  (f321_0 rc x0 x1 x5 x8 x9 x10 x19 x23 x29 x32 h)
noncomputable def f321_2 (rc : List V → HT → Option J) (x0 : V) (vs : List V) (h : HT) : Option J := unc vs fun x1 vs =>
  unc vs fun x5 vs =>
  unc vs fun x8 vs =>
  unc vs fun x9 vs =>
  unc vs fun x10 vs =>
  bndV (kBin .lss [x10, x9]) fun x11 =>
  tstv x11 (bndV (kIaS 22 [x8, x10]) fun x13 =>
  bndV (qLd h (some 22) [x13]) fun x14 =>
  bndN (kAlloc [(.int .i64 (.ofNat (nat_lit 0))), (.int .i64 (.ofNat (nat_lit 0))), (.int .i64 (.ofNat (nat_lit 0))), (.int .i64 (.ofNat (nat_lit 0))), (.int .i64 (.ofNat (nat_lit 0))), (.int .i64 (.ofNat (nat_lit 0))), (.int .i64 (.ofNat (nat_lit 0))), (.int .i64 (.ofNat (nat_lit 0))), (.int .i64 (.ofNat (nat_lit 0))), (.str (sb [])), (.str (sb [])), (.str (sb [])), (.str (sb [])), (.int .i64 (.ofNat (nat_lit 0))), (.int .i64 (.ofNat (nat_lit 0))), (.int .i64 (.ofNat (nat_lit 0))), (.int .i64 (.ofNat (nat_lit 0))), (.int .i64 (.ofNat (nat_lit 0))), (.int .i64 (.ofNat (nat_lit 0))), (.int .i64 (.ofNat (nat_lit 0))), (.int .i64 (.ofNat (nat_lit 0))), (.bool false)] []) h fun x7 h =>
  bndE (dSt h 22 [x7, x14]) h fun _ h =>
  bndV (kFa 1 [x7]) fun x15 =>
  bndV (kFa 0 [x15]) fun x16 =>
  (f321_1 rc x0 x1 x5 x7 x8 x9 x10 x16 h))
  (some ⟨0, [x5], h⟩)
noncomputable def f321 (vs : List V) (h : HT) : Option J := unc vs fun x0 vs =>
  unc vs fun x1 vs =>
  bndV (kLenS [x0]) fun x9 =>
  bndJ (loopF (fun rc vs h => unc vs fun x0 vs =>
  (f321_2 rc x0 vs h)) 1000000 [x0, x1, (.int .i64 (.negSucc (nat_lit 0))), x0, x9, (.int .i64 (.ofNat (nat_lit 0)))] h)
  fun j vs h => unc vs fun x5 vs =>
  ret1 x5 h
def a321 : List Ann := [.no, .loop [0, 1, 5, 8, 9, 10] [((.exit 0), [5])], .no, .no, .join [(.normal, [0, 1, 5, 8, 9, 10])]]
theorem e321 : f321 = evFun Tryz.prog 321 2 a321 t321 := by kernel_rfl
theorem o321 : FnOk Tryz.prog 321 f321 := .of hmO (show enters Tryz.prog 321 = true by kernel_rfl) e321 (.cons o204 (.nil))

/- concord/quorum.Prepared -/
noncomputable def l273 : List (Nat × (List V → HT → Option J)) := [(212, f212), (321, f321)]
noncomputable def t273 : Fns := tab l273
noncomputable def f273_0 (x0 : V) (x1 : V) (x2 : V) (x7 : V) (x8 : V) (x10 : V) (x11 : V) (x23 : V) (x24 : V) (x25 : V) (x54 : V) (x56 : V) (h : HT) : Option J := bndJ (tstv x56 (some ⟨0, [x0, x1, x2, x7, x8, x54, x25, x11, x23, x24, x25], h⟩)
  (some ⟨0, [x0, x1, x2, x7, x8, x54, x10, x11, x23, x24, x25], h⟩))
  fun j vs h => unc vs fun x0 vs =>
  unc vs fun x1 vs =>
  unc vs fun x2 vs =>
  unc vs fun x7 vs =>
  unc vs fun x8 vs =>
  unc vs fun x9 vs =>
  unc vs fun x10 vs =>
  unc vs fun x11 vs =>
  unc vs fun x23 vs =>
  unc vs fun x24 vs =>
  unc vs fun x25 vs =>
  some ⟨0, [x0, x1, x2, x7, x8, x9, x10, x11, x23, x24, x25], h⟩
noncomputable def f273_1 (x0 : V) (x1 : V) (x2 : V) (x7 : V) (x8 : V) (x9 : V) (x10 : V) (x11 : V) (x23 : V) (x24 : V) (x25 : V) (x52 : V) (h : HT) : Option J := bndJ (tstv x52 (bndV (kBin .add [x9, (.int .i64 (.ofNat (nat_lit 1)))]) fun x54 =>
  bndV (kBin .lss [x10, (.int .i64 (.ofNat (nat_lit 0)))]) fun x56 =>
  (f273_0 x0 x1 x2 x7 x8 x10 x11 x23 x24 x25 x54 x56 h))
  (some ⟨0, [x0, x1, x2, x7, x8, x9, x10, x11, x23, x24, x25], h⟩))
  fun j vs h => unc vs fun x0 vs =>
  unc vs fun x1 vs =>
  unc vs fun x2 vs =>
  unc vs fun x7 vs =>
  unc vs fun x8 vs =>
  unc vs fun x9 vs =>
  unc vs fun x10 vs =>
  unc vs fun x11 vs =>
  unc vs fun x23 vs =>
  unc vs fun x24 vs =>
  unc vs fun x25 vs =>
  some ⟨0, [x0, x1, x2, x7, x8, x9, x10, x11, x23, x24, x25], h⟩
noncomputable def f273_2 (rc : List V → HT → Option J) (x0 : V) (x1 : V) (x2 : V) (x7 : V) (x8 : V) (x9 : V) (x10 : V) (x11 : V) (x13 : V) (x23 : V) (x24 : V) (x25 : V) (x43 : V) (h : HT) : Option J := bndJ (tstv x43 (some ⟨0, [x0, x1, x2, x7, x8, x9, x10, (.bool true), x23, x24, x25], h⟩)
  (bndV (kFa 1 [x13]) fun x44 =>
  bndV (kFa 0 [x44]) fun x45 =>
  bndV (qLd h none [x45]) fun x46 =>
  bndV (kBin .eql [x46, (.int .i64 (.ofNat (nat_lit 1)))]) fun x47 =>
  bndC (gsel x47 true (retV (kFa 1 [x13]) h) h) fun x49 h =>
  bndC (gsel x47 true (retV (kFa 20 [x49]) h) h) fun x50 h =>
  bndC (gsel x47 true (retV (qLd h none [x50]) h) h) fun x51 h =>
  bndV (kPick [x47, x51, (.bool false)]) fun x52 =>
  (f273_1 x0 x1 x2 x7 x8 x9 x10 x11 x23 x24 x25 x52 h)))
  fun j vs h => unc vs fun x0 vs =>
  unc vs fun x1 vs =>
  unc vs fun x2 vs =>
  unc vs fun x7 vs =>
  unc vs fun x8 vs =>
  unc vs fun x9 vs =>
  unc vs fun x10 vs =>
  unc vs fun x11 vs =>
  unc vs fun x23 vs =>
  unc vs fun x24 vs =>
  unc vs fun x25 vs =>
  bndV (kBin .add [x25, (.int .i64 (.ofNat (nat_lit 1)))]) fun x58 =>
  rc [x0, x1, x2, x7, x8, x9, x10, x11, x23, x24, x58] h
noncomputable def f273_3 (rc : List V → HT → Option J) (x0 : V) (x1 : V) (x2 : V) (x7 : V) (x8 : V) (x9 : V) (x10 : V) (x11 : V) (x13 : V) (x23 : V) (x24 : V) (x25 : V) (x33 : V) (h : HT) : Option J := tstv x33 (bndV (kFa 1 [x13]) fun x34 =>
  bndV (kFa 5 [x34]) fun x35 =>
  bndV (qLd h (some 7) [x35]) fun x36 =>
  bndV (kFa 1 [x13]) fun x37 =>
  bndV (kFa 12 [x37]) fun x38 =>
  bndV (qLd h (some 8) [x38]) fun x39 =>
  bndE (dSt h 7 [x7, x36]) h fun _ h =>
  chk1 (sameE (qLd h (some 8) [x38]) x39) (bndE (dSt h 8 [x8, x39]) h fun _ h =>
  some ⟨1, [(.int .i64 (.ofNat (nat_lit 1))), x7, x8], h⟩))
  (bndV (kFa 0 [x13]) fun x40 =>
  bndV (qLd h none [x40]) fun x41 =>
  bndV (kBin .eql [x41, x1]) fun x43 =>
  (f273_2 rc x0 x1 x2 x7 x8 x9 x10 x11 x13 x23 x24 x25 x43 h))
noncomputable def f273_4 (rc : List V → HT → Option J) (x0 : V) (x1 : V) (x2 : V) (x7 : V) (x8 : V) (x9 : V) (x10 : V) (x11 : V) (vs : List V) (h : HT) : Option J := unc vs fun x23 vs =>
  unc vs fun x24 vs =>
  unc vs fun x25 vs =>
  bndV (kBin .lss [x25, x24]) fun x26 =>
  tstv x26 (bndV (kIaS 22 [x23, x25]) fun x28 =>
  bndV (qLd h (some 22) [x28]) fun x29 =>
  bndN (kAlloc [(.int .i64 (.ofNat (nat_lit 0))), (.int .i64 (.ofNat (nat_lit 0))), (.int .i64 (.ofNat (nat_lit 0))), (.int .i64 (.ofNat (nat_lit 0))), (.int .i64 (.ofNat (nat_lit 0))), (.int .i64 (.ofNat (nat_lit 0))), (.int .i64 (.ofNat (nat_lit 0))), (.int .i64 (.ofNat (nat_lit 0))), (.int .i64 (.ofNat (nat_lit 0))), (.str (sb [])), (.str (sb [])), (.str (sb [])), (.str (sb [])), (.int .i64 (.ofNat (nat_lit 0))), (.int .i64 (.ofNat (nat_lit 0))), (.int .i64 (.ofNat (nat_lit 0))), (.int .i64 (.ofNat (nat_lit 0))), (.int .i64 (.ofNat (nat_lit 0))), (.int .i64 (.ofNat (nat_lit 0))), (.int .i64 (.ofNat (nat_lit 0))), (.int .i64 (.ofNat (nat_lit 0))), (.bool false)] []) h fun x13 h =>
  bndE (dSt h 22 [x13, x29]) h fun _ h =>
  bndV (kFa 1 [x13]) fun x30 =>
  bndV (kFa 0 [x30]) fun x31 =>
  bndV (qLd h none [x31]) fun x32 =>
  bndV (kBin .eql [x32, (.int .i64 (.ofNat (nat_lit 3)))]) fun x33 =>
  (f273_3 rc x0 x1 x2 x7 x8 x9 x10 x11 x13 x23 x24 x25 x33 h))
  (some ⟨0, [x0, x2, x7, x8, x9, x10, x11], h⟩)
noncomputable def f273_5 (x2 : V) (x7 : V) (x8 : V) (x10 : V) (x76 : V) (x88 : V) (h : HT) : Option J := tstv x88 (bndV (kIaS 22 [x2, x10]) fun x91 =>
  bndV (kFa 1 [x91]) fun x92 =>
  bndV (kFa 5 [x92]) fun x93 =>
  bndV (qLd h (some 7) [x93]) fun x94 =>
  bndV (kIaS 22 [x2, x10]) fun x97 =>
  bndV (kFa 1 [x97]) fun x98 =>
  bndV (kFa 12 [x98]) fun x99 =>
  bndV (qLd h (some 8) [x99]) fun x100 =>
  bndE (dSt h 7 [x7, x94]) h fun _ h =>
  chk1 (sameE (qLd h (some 8) [x99]) x100) (bndE (dSt h 8 [x8, x100]) h fun _ h =>
  bndV (qLd h (some 7) [x7]) fun x900000 =>
  bndV (qLd h (some 8) [x8]) fun x900001 =>
  ret1 (.tuple [(.int .i64 (.ofNat (nat_lit 2))), x900000, x900001]) h))
  (bndV (kIaS 22 [x2, x76]) fun x103 =>
  bndV (kFa 1 [x103]) fun x104 =>
  bndV (kFa 5 [x104]) fun x105 =>
  bndV (qLd h (some 7) [x105]) fun x106 =>
  bndV (kIaS 22 [x2, x76]) fun x109 =>
  bndV (kFa 1 [x109]) fun x110 =>
  bndV (kFa 12 [x110]) fun x111 =>
  bndV (qLd h (some 8) [x111]) fun x112 =>
  bndE (dSt h 7 [x7, x106]) h fun _ h =>
  chk1 (sameE (qLd h (some 8) [x111]) x112) (bndE (dSt h 8 [x8, x112]) h fun _ h =>
  bndV (qLd h (some 7) [x7]) fun x900000 =>
  bndV (qLd h (some 8) [x8]) fun x900001 =>
  ret1 (.tuple [(.int .i64 (.ofNat (nat_lit 3))), x900000, x900001]) h))
noncomputable def f273_6 (x0 : V) (x2 : V) (x7 : V) (x8 : V) (x9 : V) (x10 : V) (x11 : V) (x76 : V) (x78 : V) (h : HT) : Option J := tstv x78 (bndV (kBld [(.int .i64 (.ofNat (nat_lit 0))), (.int .i64 (.ofNat (nat_lit 0))), (.int .i64 (.ofNat (nat_lit 0))), (.str (sb [])), (.str (sb [])), (.str (sb [])), (.str (sb []))] [] []) fun x79 =>
  bndV (kBld [(.int .i64 (.ofNat (nat_lit 0))), (.int .i64 (.ofNat (nat_lit 0))), (.int .i64 (.ofNat (nat_lit 0))), (.int .i64 (.ofNat (nat_lit 0))), (.int .i64 (.ofNat (nat_lit 0))), (.int .i64 (.ofNat (nat_lit 0))), (.int .i64 (.ofNat (nat_lit 0))), (.int .i64 (.ofNat (nat_lit 0)))] [] []) fun x80 =>
  bndE (dSt h 7 [x7, x79]) h fun _ h =>
  bndE (dSt h 8 [x8, x80]) h fun _ h =>
  bndV (qLd h (some 7) [x7]) fun x900000 =>
  bndV (qLd h (some 8) [x8]) fun x900001 =>
  ret1 (.tuple [(.int .i64 (.ofNat (nat_lit 4))), x900000, x900001]) h)
  (bndV (kUn .not [x11]) fun x82 =>
  bndC (gsel x82 true (retV (kMov [x9]) h) h) fun x84 h =>
  bndC (gsel x82 true (retV (kMov [x0]) h) h) fun x85 h =>
  bndC (gsel x82 true (retV (kBin .quo [x85, (.int .i64 (.ofNat (nat_lit 2)))]) h) h) fun x86 h =>
  bndC (gsel x82 true (retV (kBin .geq [x84, x86]) h) h) fun x87 h =>
  bndV (kPick [x82, x87, (.bool false)]) fun x88 =>
  (f273_5 x2 x7 x8 x10 x76 x88 h))
noncomputable def f273_7 (x0 : V) (x2 : V) (x7 : V) (x8 : V) (x9 : V) (x10 : V) (x11 : V) (x60 : V) (x62 : V) (h : HT) : Option J := tstv x62 (bndV (kIaS 22 [x2, x60]) fun x65 =>
  bndV (kFa 1 [x65]) fun x66 =>
  bndV (kFa 5 [x66]) fun x67 =>
  bndV (qLd h (some 7) [x67]) fun x68 =>
  bndV (kIaS 22 [x2, x60]) fun x71 =>
  bndV (kFa 1 [x71]) fun x72 =>
  bndV (kFa 12 [x72]) fun x73 =>
  bndV (qLd h (some 8) [x73]) fun x74 =>
  bndE (dSt h 7 [x7, x68]) h fun _ h =>
  chk1 (sameE (qLd h (some 8) [x73]) x74) (bndE (dSt h 8 [x8, x74]) h fun _ h =>
  bndV (qLd h (some 7) [x7]) fun x900000 =>
  bndV (qLd h (some 8) [x8]) fun x900001 =>
  ret1 (.tuple [(.int .i64 (.ofNat (nat_lit 2))), x900000, x900001]) h))
  (bndC (f321 [x2, (.int .i64 (.ofNat (nat_lit 1)))] h) fun x76 h =>
  bndV (kBin .lss [x76, (.int .i64 (.ofNat (nat_lit 0)))]) fun x78 =>
  (f273_6 x0 x2 x7 x8 x9 x10 x11 x76 x78 h))
noncomputable def f273_8 (j : Nat) (vs : List V) (h : HT) : Option J := nsw j (unc vs fun x0 vs =>
  unc vs fun x2 vs =>
  unc vs fun x7 vs =>
  unc vs fun x8 vs =>
  unc vs fun x9 vs =>
  unc vs fun x10 vs =>
  unc vs fun x11 vs =>
  bndC (f321 [x2, (.int .i64 (.ofNat (nat_lit 2)))] h) fun x60 h =>
  bndV (kBin .geq [x60, (.int .i64 (.ofNat (nat_lit 0)))]) fun x62 =>
  (f273_7 x0 x2 x7 x8 x9 x10 x11 x60 x62 h))
  fun j => unc vs fun x6 vs =>
  unc vs fun x7 vs =>
  unc vs fun x8 vs =>
  bndV (qLd h (some 7) [x7]) fun x900000 =>
  bndV (qLd h (some 8) [x8]) fun x900001 =>
  ret1 (.tuple [x6, x900000, x900001]) h
noncomputable def f273_9 (x0 : V) (x1 : V) (x2 : V) (x7 : V) (x8 : V) (x20 : V) (h : HT) : Option J := tstv x20 (bndV (kBld [(.int .i64 (.ofNat (nat_lit 0))), (.int .i64 (.ofNat (nat_lit 0))), (.int .i64 (.ofNat (nat_lit 0))), (.str (sb [])), (.str (sb [])), (.str (sb [])), (.str (sb []))] [] []) fun x21 =>
  bndV (kBld [(.int .i64 (.ofNat (nat_lit 0))), (.int .i64 (.ofNat (nat_lit 0))), (.int .i64 (.ofNat (nat_lit 0))), (.int .i64 (.ofNat (nat_lit 0))), (.int .i64 (.ofNat (nat_lit 0))), (.int .i64 (.ofNat (nat_lit 0))), (.int .i64 (.ofNat (nat_lit 0))), (.int .i64 (.ofNat (nat_lit 0)))] [] []) fun x22 =>
  bndE (dSt h 7 [x7, x21]) h fun _ h =>
  bndE (dSt h 8 [x8, x22]) h fun _ h =>
  bndV (qLd h (some 7) [x7]) fun x900000 =>
  bndV (qLd h (some 8) [x8]) fun x900001 =>
  ret1 (.tuple [(.int .i64 (.ofNat (nat_lit 0))), x900000, x900001]) h)
  (bndV (kLenS [x2]) fun x24 =>
  bndJ (loopF (fun rc vs h => unc vs fun x0 vs =>
  unc vs fun x1 vs =>
  unc vs fun x2 vs =>
  unc vs fun x7 vs =>
  unc vs fun x8 vs =>
  unc vs fun x9 vs =>
  unc vs fun x10 vs =>
  unc vs fun x11 vs =>
  (f273_4 rc x0 x1 x2 x7 x8 x9 x10 x11 vs h)) 1000000 [x0, x1, x2, x7, x8, (.int .i64 (.ofNat (nat_lit 0))), (.int .i64 (.negSucc (nat_lit 0))), (.bool false), x2, x24, (.int .i64 (.ofNat (nat_lit 0)))] h)
  fun j vs h => (f273_8 j vs h))
noncomputable def f273 (vs : List V) (h : HT) : Option J := unc vs fun x0 vs =>
  unc vs fun x1 vs =>
  unc vs fun x2 vs =>
  bndN (kAlloc [(.int .i64 (.ofNat (nat_lit 0))), (.int .i64 (.ofNat (nat_lit 0))), (.int .i64 (.ofNat (nat_lit 0))), (.str (sb [])), (.str (sb [])), (.str (sb [])), (.str (sb []))] []) h fun x7 h =>
  bndN (kAlloc [(.int .i64 (.ofNat (nat_lit 0))), (.int .i64 (.ofNat (nat_lit 0))), (.int .i64 (.ofNat (nat_lit 0))), (.int .i64 (.ofNat (nat_lit 0))), (.int .i64 (.ofNat (nat_lit 0))), (.int .i64 (.ofNat (nat_lit 0))), (.int .i64 (.ofNat (nat_lit 0))), (.int .i64 (.ofNat (nat_lit 0)))] []) h fun x8 h =>
  bndV (kLenS [x2]) fun x17 =>
  bndC (f212 [x0] h) fun x19 h =>
  bndV (kBin .lss [x17, x19]) fun x20 =>
  (f273_9 x0 x1 x2 x7 x8 x20 h)
def a273 : List Ann := [.no, .no, .loop [0, 1, 2, 7, 8, 9, 10, 11, 23, 24, 25] [((.exit 0), [0, 2, 7, 8, 9, 10, 11]), (.ret, [6, 7, 8])], .no, .no, .no, .join [(.normal, [0, 1, 2, 7, 8, 9, 10, 11, 23, 24, 25])], .join [(.normal, [0, 1, 2, 7, 8, 9, 10, 11, 23, 24, 25])], .join [(.normal, [0, 1, 2, 7, 8, 9, 10, 11, 23, 24, 25])], .no, .no, .no]
theorem e273 : f273 = evFun Tryz.prog 273 3 a273 t273 := by kernel_rfl
theorem o273 : FnOk Tryz.prog 273 f273 := .of hmO (show enters Tryz.prog 273 = true by kernel_rfl) e273 (.cons o212 (.cons o321 (.nil)))

/- (*concord/core.Core).again -/
noncomputable def l275 : List (Nat × (List V → HT → Option J)) := [(99, f99), (121, f121), (122, f122), (123, f123), (270, f270)]
noncomputable def t275 : Fns := tab l275
noncomputable def f275_0 (x0 : V) (x1 : V) (x6 : V) (x8 : V) (x44 : V) (h : HT) : Option J := tstv x44 (bndV (kNilc [x1]) fun x47 =>
  bndV (kFa 0 [x47]) fun x48 =>
  bndV (qLd h (some 2) [x48]) fun x49 =>
  bndC (noF [x0, x49] h) fun x50 h =>
  ret1 (.tuple []) h)
  (bndV (kNilc [x1]) fun x53 =>
  bndV (kFa 0 [x53]) fun x54 =>
  bndV (qLd h (some 2) [x54]) fun x55 =>
  bndV (kNilc [x1]) fun x57 =>
  bndV (kFa 3 [x57]) fun x58 =>
  bndV (qLd h (some 2) [x58]) fun x59 =>
  bndV (qLd h (some 7) [x6]) fun x60 =>
  bndV (qLd h (some 8) [x8]) fun x61 =>
  bndV (kBld [(.int .i64 (.ofNat (nat_lit 0))), (.int .i64 (.ofNat (nat_lit 0))), (.int .i64 (.ofNat (nat_lit 0))), (.int .i64 (.ofNat (nat_lit 0))), (.int .i64 (.ofNat (nat_lit 0))), (.bool false), (.int .i64 (.ofNat (nat_lit 0))), (.int .i64 (.ofNat (nat_lit 0))), (.int .i64 (.ofNat (nat_lit 0))), (.str (sb [])), (.str (sb [])), (.str (sb [])), (.str (sb [])), (.int .i64 (.ofNat (nat_lit 0))), (.int .i64 (.ofNat (nat_lit 0))), (.int .i64 (.ofNat (nat_lit 0))), (.int .i64 (.ofNat (nat_lit 0))), (.int .i64 (.ofNat (nat_lit 0))), (.int .i64 (.ofNat (nat_lit 0))), (.int .i64 (.ofNat (nat_lit 0))), (.int .i64 (.ofNat (nat_lit 0))), (.int .i64 (.ofNat (nat_lit 0))), (.int .i64 (.ofNat (nat_lit 0))), (.int .i64 (.ofNat (nat_lit 0))), (.int .i64 (.ofNat (nat_lit 0))), (.int .i64 (.ofNat (nat_lit 0))), (.int .i64 (.ofNat (nat_lit 0))), (.int .i64 (.ofNat (nat_lit 0))), (.slice none 0 true 0), (.slice none 0 true 0), (.int .i64 (.ofNat (nat_lit 0))), (.int .i64 (.ofNat (nat_lit 0)))] [(0, 2), (2, 1), (3, 2), (6, 7), (13, 8)] [x55, (.int .i64 (.ofNat (nat_lit 0))), x59, x60, x61]) fun x62 =>
  bndN (kBox [x62]) h fun x63 h =>
  bndC (f123 [x0, x63] h) fun x64 h =>
  ret1 (.tuple []) h)
noncomputable def f275_1 (x0 : V) (x1 : V) (x6 : V) (x8 : V) (x24 : V) (x26 : V) (x30 : V) (h : HT) : Option J := bndC (gsel x24 false (retV (kMov [x1]) h) h) fun x31 h =>
  bndC (gsel x24 false (retV (kNilc [x31]) h) h) fun x32 h =>
  bndC (gsel x24 false (retV (kFa 3 [x32]) h) h) fun x33 h =>
  bndC (gsel x24 false (retV (qLd h (some 2) [x33]) h) h) fun x34 h =>
  bndC (gsel x24 false (retV (kMov [x1]) h) h) fun x35 h =>
  bndC (gsel x24 false (retV (kNilc [x35]) h) h) fun x36 h =>
  bndC (gsel x24 false (retV (kFa 3 [x36]) h) h) fun x37 h =>
  bndC (gsel x24 false (retV (qLd h (some 2) [x37]) h) h) fun x38 h =>
  bndC (gsel x24 false (retV (qLd h (some 7) [x6]) h) h) fun x39 h =>
  bndC (gsel x24 false (retV (qLd h (some 8) [x8]) h) h) fun x40 h =>
  bndC (gsel x24 false (retV (kBld [(.int .i64 (.ofNat (nat_lit 0))), (.int .i64 (.ofNat (nat_lit 0))), (.int .i64 (.ofNat (nat_lit 0))), (.int .i64 (.ofNat (nat_lit 0))), (.int .i64 (.ofNat (nat_lit 0))), (.int .i64 (.ofNat (nat_lit 0))), (.int .i64 (.ofNat (nat_lit 0))), (.int .i64 (.ofNat (nat_lit 0))), (.str (sb [])), (.str (sb [])), (.str (sb [])), (.str (sb [])), (.int .i64 (.ofNat (nat_lit 0))), (.int .i64 (.ofNat (nat_lit 0))), (.int .i64 (.ofNat (nat_lit 0))), (.int .i64 (.ofNat (nat_lit 0))), (.int .i64 (.ofNat (nat_lit 0))), (.int .i64 (.ofNat (nat_lit 0))), (.int .i64 (.ofNat (nat_lit 0))), (.int .i64 (.ofNat (nat_lit 0))), (.bool false)] [(0, 1), (1, 2), (3, 2), (5, 7), (12, 8)] [(.int .i64 (.ofNat (nat_lit 1))), x34, x38, x39, x40]) h) h) fun x41 h =>
  bndC (gsel x24 false (f122 [x26, x30, x41] h) h) fun x42 h =>
  bndC (gsel x24 false (retV (kUn .not [x42]) h) h) fun x43 h =>
  bndV (kPick [x24, (.bool true), x43]) fun x44 =>
  (f275_0 x0 x1 x6 x8 x44 h)
noncomputable def f275_2 (x0 : V) (x1 : V) (x6 : V) (x7 : V) (x9 : V) (x13 : V) (x17 : V) (x18 : V) (h : HT) : Option J := bndN (kAlloc [(.int .i64 (.ofNat (nat_lit 0))), (.int .i64 (.ofNat (nat_lit 0))), (.int .i64 (.ofNat (nat_lit 0))), (.int .i64 (.ofNat (nat_lit 0))), (.int .i64 (.ofNat (nat_lit 0))), (.int .i64 (.ofNat (nat_lit 0))), (.int .i64 (.ofNat (nat_lit 0))), (.int .i64 (.ofNat (nat_lit 0)))] []) h fun x8 h =>
  bndC (f121 [x13, x17, x18] h) fun x19 h =>
  chk1 (sameE (qLd h (some 8) [x7]) x9) (bndN (kBsl 8 2 [(.int .i64 (.ofNat (nat_lit 0))), (.int .i64 (.ofNat (nat_lit 0))), (.int .i64 (.ofNat (nat_lit 0))), (.int .i64 (.ofNat (nat_lit 0))), (.int .i64 (.ofNat (nat_lit 0))), (.int .i64 (.ofNat (nat_lit 0))), (.int .i64 (.ofNat (nat_lit 0))), (.int .i64 (.ofNat (nat_lit 0))), (.int .i64 (.ofNat (nat_lit 0))), (.int .i64 (.ofNat (nat_lit 0))), (.int .i64 (.ofNat (nat_lit 0))), (.int .i64 (.ofNat (nat_lit 0))), (.int .i64 (.ofNat (nat_lit 0))), (.int .i64 (.ofNat (nat_lit 0))), (.int .i64 (.ofNat (nat_lit 0))), (.int .i64 (.ofNat (nat_lit 0)))] [(0, 8), (8, 8)] [x9, x19]) h fun x20 h =>
  bndC (f270 [x20] h) fun x21 h =>
  bndE (dSt h 8 [x8, x21]) h fun _ h =>
  bndV (qLd h (some 8) [x8]) fun x22 =>
  bndC (f99 [x22] h) fun x23 h =>
  bndV (kUn .not [x23]) fun x24 =>
  bndC (gsel x24 false (retV (kMov [x0]) h) h) fun x26 h =>
  bndC (gsel x24 false (retV (kMov [x1]) h) h) fun x27 h =>
  bndC (gsel x24 false (retV (kNilc [x27]) h) h) fun x28 h =>
  bndC (gsel x24 false (retV (kFa 0 [x28]) h) h) fun x29 h =>
  bndC (gsel x24 false (retV (qLd h (some 2) [x29]) h) h) fun x30 h =>
  (f275_1 x0 x1 x6 x8 x24 x26 x30 h))
noncomputable def f275 (vs : List V) (h : HT) : Option J := unc vs fun x0 vs =>
  unc vs fun x1 vs =>
  unc vs fun x2 vs =>
  unc vs fun x3 vs =>
  bndN (kBox [x2]) h fun x6 h =>
  bndN (kBox [x3]) h fun x7 h =>
  bndV (qLd h (some 8) [x7]) fun x9 =>
  bndV (kNilc [x0]) fun x11 =>
  bndV (kFa 3 [x11]) fun x12 =>
  bndV (qLd h none [x12]) fun x13 =>
  bndV (kNilc [x1]) fun x15 =>
  bndV (kFa 0 [x15]) fun x16 =>
  bndV (qLd h (some 2) [x16]) fun x17 =>
  bndV (qLd h (some 7) [x6]) fun x18 =>
  (f275_2 x0 x1 x6 x7 x9 x13 x17 x18 h)
def a275 : List Ann := [.no]
theorem e275 : f275 = evFun Tryz.prog 275 4 a275 t275 := by kernel_rfl
theorem o275 : FnOk Tryz.prog 275 f275 := .of hmO (show enters Tryz.prog 275 = true by kernel_rfl) e275 (.cons o99 (.cons o121 (.cons o122 (.cons o123 (.cons o270 (.nil))))))

/- (*concord/core.Core).prepared -/
noncomputable def l214 : List (Nat × (List V → HT → Option J)) := [(273, f273), (275, f275)]
noncomputable def t214 : Fns := tab l214
noncomputable def f214_0 (x0 : V) (x1 : V) (x5 : V) (x6 : V) (x22 : V) (x44 : V) (h : HT) : Option J := tstv x44 (bndV (kBld [(.int .i64 (.ofNat (nat_lit 0))), (.int .i64 (.ofNat (nat_lit 0))), (.int .i64 (.ofNat (nat_lit 0))), (.str (sb [])), (.str (sb [])), (.str (sb [])), (.str (sb []))] [] []) fun x47 =>
  bndV (kNilc [x1]) fun x49 =>
  bndV (kFa 0 [x49]) fun x50 =>
  bndV (qLd h (some 2) [x50]) fun x51 =>
  bndC (noF [x51] h) fun x52 h =>
  bndC (noF [x0, x1, x47, x52] h) fun x53 h =>
  ret1 (.tuple []) h)
  (bndV (kBin .eql [x22, (.int .i64 (.ofNat (nat_lit 3)))]) fun x55 =>
  tstv x55 (bndV (qLd h (some 7) [x5]) fun x58 =>
  bndV (qLd h (some 8) [x6]) fun x59 =>
  bndC (f275 [x0, x1, x58, x59] h) fun x60 h =>
  ret1 (.tuple []) h)
  (ret1 (.tuple []) h))
noncomputable def f214_1 (x0 : V) (x1 : V) (x5 : V) (x6 : V) (x22 : V) (x27 : V) (h : HT) : Option J := tstv x27 (bndV (kNilc [x1]) fun x30 =>
  bndV (kFa 0 [x30]) fun x31 =>
  bndV (qLd h (some 2) [x31]) fun x32 =>
  bndV (qLd h (some 7) [x5]) fun x33 =>
  bndV (qLd h (some 8) [x6]) fun x34 =>
  bndC (noF [x0, x32, x33, x34] h) fun x35 h =>
  ret1 (.tuple []) h)
  (bndV (kBin .eql [x22, (.int .i64 (.ofNat (nat_lit 2)))]) fun x37 =>
  tstv x37 (bndV (qLd h (some 7) [x5]) fun x40 =>
  bndV (qLd h (some 8) [x6]) fun x41 =>
  bndC (noF [x0, x1, x40, x41] h) fun x42 h =>
  ret1 (.tuple []) h)
  (bndV (kBin .eql [x22, (.int .i64 (.ofNat (nat_lit 4)))]) fun x44 =>
  (f214_0 x0 x1 x5 x6 x22 x44 h)))
noncomputable def f214_2 (x0 : V) (x1 : V) (x11 : V) (x14 : V) (h : HT) : Option J := bndV (kFa 0 [x14]) fun x15 =>
  bndV (qLd h none [x15]) fun x16 =>
  bndV (kNilc [x1]) fun x18 =>
  bndV (kFa 29 [x18]) fun x19 =>
  bndV (qLd h none [x19]) fun x20 =>
  bndN (kAlloc [(.int .i64 (.ofNat (nat_lit 0))), (.int .i64 (.ofNat (nat_lit 0))), (.int .i64 (.ofNat (nat_lit 0))), (.str (sb [])), (.str (sb [])), (.str (sb [])), (.str (sb []))] []) h fun x5 h =>
  bndN (kAlloc [(.int .i64 (.ofNat (nat_lit 0))), (.int .i64 (.ofNat (nat_lit 0))), (.int .i64 (.ofNat (nat_lit 0))), (.int .i64 (.ofNat (nat_lit 0))), (.int .i64 (.ofNat (nat_lit 0))), (.int .i64 (.ofNat (nat_lit 0))), (.int .i64 (.ofNat (nat_lit 0))), (.int .i64 (.ofNat (nat_lit 0)))] []) h fun x6 h =>
  bndC (f273 [x11, x16, x20] h) fun x21 h =>
  bndV (kExt 0 [x21]) fun x22 =>
  bndV (kExt 1 [x21]) fun x23 =>
  bndV (kExt 2 [x21]) fun x24 =>
  bndE (dSt h 7 [x5, x23]) h fun _ h =>
  bndE (dSt h 8 [x6, x24]) h fun _ h =>
  bndV (kBin .eql [x22, (.int .i64 (.ofNat (nat_lit 1)))]) fun x27 =>
  (f214_1 x0 x1 x5 x6 x22 x27 h)
noncomputable def f214 (vs : List V) (h : HT) : Option J := unc vs fun x0 vs =>
  unc vs fun x1 vs =>
  bndV (kNilc [x0]) fun x9 =>
  bndV (kFa 0 [x9]) fun x10 =>
  bndV (qLd h none [x10]) fun x11 =>
  bndV (kNilc [x1]) fun x13 =>
  bndV (kFa 0 [x13]) fun x14 =>
  (f214_2 x0 x1 x11 x14 h)
def a214 : List Ann := [.no, .no, .no, .no, .no]
theorem e214 : f214 = evFun Tryz.prog 214 2 a214 t214 := by kernel_rfl
theorem o214 : FnOk Tryz.prog 214 f214 := .of hmO (show enters Tryz.prog 214 = true by kernel_rfl) e214 (.cons o273 (.cons o275 (.nil)))

/- (*concord/core.Core).answered -/
noncomputable def l138 : List (Nat × (List V → HT → Option J)) := [(207, f207), (211, f211), (212, f212), (213, f213), (214, f214)]
noncomputable def t138 : Fns := tab l138
noncomputable def f138_0 (x0 : V) (x9 : V) (x93 : V) (x94 : V) (x95 : V) (x100 : V) (h : HT) : Option J := chk1 (sameE (qLd h none [x93]) x94) (bndV (kBin .geq [x95, x100]) fun x101 =>
  tstv x101 (bndV (kNilc [x9]) fun x104 =>
  bndV (kFa 0 [x104]) fun x105 =>
  bndV (qLd h (some 2) [x105]) fun x106 =>
  bndV (kNilc [x9]) fun x108 =>
  bndV (kFa 6 [x108]) fun x109 =>
  bndV (qLd h (some 7) [x109]) fun x110 =>
  bndV (kNilc [x9]) fun x112 =>
  bndV (kFa 13 [x112]) fun x113 =>
  bndV (qLd h (some 8) [x113]) fun x114 =>
  bndC (f213 [x0, x106, x110, x114] h) fun x115 h =>
  ret1 (.tuple []) h)
  (ret1 (.tuple []) h))
noncomputable def f138_1 (x0 : V) (x3 : V) (x9 : V) (h : HT) : Option J := bndV (kNilc [x9]) fun x58 =>
  bndV (kFa 29 [x58]) fun x59 =>
  bndV (qLd h none [x59]) fun x60 =>
  bndV (kFa 1 [x3]) fun x61 =>
  bndV (qLd h none [x61]) fun x62 =>
  bndV (kFa 22 [x3]) fun x63 =>
  bndV (qLd h (some 21) [x63]) fun x64 =>
  bndV (kBld [(.int .i64 (.ofNat (nat_lit 0))), (.int .i64 (.ofNat (nat_lit 0))), (.int .i64 (.ofNat (nat_lit 0))), (.int .i64 (.ofNat (nat_lit 0))), (.int .i64 (.ofNat (nat_lit 0))), (.int .i64 (.ofNat (nat_lit 0))), (.int .i64 (.ofNat (nat_lit 0))), (.int .i64 (.ofNat (nat_lit 0))), (.int .i64 (.ofNat (nat_lit 0))), (.str (sb [])), (.str (sb [])), (.str (sb [])), (.str (sb [])), (.int .i64 (.ofNat (nat_lit 0))), (.int .i64 (.ofNat (nat_lit 0))), (.int .i64 (.ofNat (nat_lit 0))), (.int .i64 (.ofNat (nat_lit 0))), (.int .i64 (.ofNat (nat_lit 0))), (.int .i64 (.ofNat (nat_lit 0))), (.int .i64 (.ofNat (nat_lit 0))), (.int .i64 (.ofNat (nat_lit 0))), (.bool false)] [(0, 1), (1, 21)] [x62, x64]) fun x65 =>
  bndN (kBsl 22 1 [(.int .i64 (.ofNat (nat_lit 0))), (.int .i64 (.ofNat (nat_lit 0))), (.int .i64 (.ofNat (nat_lit 0))), (.int .i64 (.ofNat (nat_lit 0))), (.int .i64 (.ofNat (nat_lit 0))), (.int .i64 (.ofNat (nat_lit 0))), (.int .i64 (.ofNat (nat_lit 0))), (.int .i64 (.ofNat (nat_lit 0))), (.int .i64 (.ofNat (nat_lit 0))), (.str (sb [])), (.str (sb [])), (.str (sb [])), (.str (sb [])), (.int .i64 (.ofNat (nat_lit 0))), (.int .i64 (.ofNat (nat_lit 0))), (.int .i64 (.ofNat (nat_lit 0))), (.int .i64 (.ofNat (nat_lit 0))), (.int .i64 (.ofNat (nat_lit 0))), (.int .i64 (.ofNat (nat_lit 0))), (.int .i64 (.ofNat (nat_lit 0))), (.int .i64 (.ofNat (nat_lit 0))), (.bool false)] [(0, 22)] [x65]) h fun x66 h =>
  bndE (dApp h 22 208 [x60, x66]) h fun x67 h =>
  bndV (kNilc [x9]) fun x68 =>
  bndV (kFa 29 [x68]) fun x69 =>
  bndE (dSt h 1 [x69, x67]) h fun _ h =>
  bndC (f214 [x0, x9] h) fun x72 h =>
  ret1 (.tuple []) h
noncomputable def f138_2 (x0 : V) (x3 : V) (x9 : V) (x35 : V) (x74 : V) (h : HT) : Option J := tstv x74 (bndV (kNilc [x9]) fun x77 =>
  bndV (kFa 28 [x77]) fun x78 =>
  bndV (qLd h none [x78]) fun x79 =>
  bndV (kFa 14 [x3]) fun x80 =>
  bndV (qLd h (some 8) [x80]) fun x81 =>
  bndN (kBsl 8 1 [(.int .i64 (.ofNat (nat_lit 0))), (.int .i64 (.ofNat (nat_lit 0))), (.int .i64 (.ofNat (nat_lit 0))), (.int .i64 (.ofNat (nat_lit 0))), (.int .i64 (.ofNat (nat_lit 0))), (.int .i64 (.ofNat (nat_lit 0))), (.int .i64 (.ofNat (nat_lit 0))), (.int .i64 (.ofNat (nat_lit 0)))] [(0, 8)] [x81]) h fun x82 h =>
  bndE (dApp h 8 64 [x79, x82]) h fun x83 h =>
  bndV (kNilc [x9]) fun x84 =>
  bndV (kFa 28 [x84]) fun x85 =>
  bndE (dSt h 1 [x85, x83]) h fun _ h =>
  bndC (f211 [x0, x9, (.bool false)] h) fun x88 h =>
  ret1 (.tuple []) h)
  (bndV (kBin .eql [x35, (.int .i64 (.ofNat (nat_lit 1)))]) fun x90 =>
  tstv x90 (bndV (kNilc [x9]) fun x92 =>
  bndV (kFa 30 [x92]) fun x93 =>
  bndV (qLd h none [x93]) fun x94 =>
  bndV (kBin .add [x94, (.int .i64 (.ofNat (nat_lit 1)))]) fun x95 =>
  bndV (kNilc [x0]) fun x97 =>
  bndV (kFa 0 [x97]) fun x98 =>
  bndV (qLd h none [x98]) fun x99 =>
  bndC (f212 [x99] h) fun x100 h =>
  (f138_0 x0 x9 x93 x94 x95 x100 h))
  ((f138_1 x0 x3 x9 h)))
noncomputable def f138_3 (x0 : V) (x3 : V) (x9 : V) (x35 : V) (h : HT) : Option J := bndV (kFa 1 [x3]) fun x43 =>
  bndV (qLd h none [x43]) fun x44 =>
  bndV (kNilc [x9]) fun x45 =>
  bndV (kFa 21 [x45]) fun x46 =>
  bndV (kIaA 7 1 [x46, x44]) fun x47 =>
  bndE (dSt h 1 [x47, (.int .i64 (.ofNat (nat_lit 1)))]) h fun _ h =>
  bndV (kNilc [x9]) fun x49 =>
  bndV (kFa 30 [x49]) fun x50 =>
  bndV (qLd h none [x50]) fun x51 =>
  bndV (kBin .add [x51, (.int .i64 (.ofNat (nat_lit 1)))]) fun x52 =>
  bndV (kNilc [x9]) fun x53 =>
  bndV (kFa 30 [x53]) fun x54 =>
  bndE (dSt h 1 [x54, x52]) h fun _ h =>
  bndV (kBin .eql [x35, (.int .i64 (.ofNat (nat_lit 0)))]) fun x74 =>
  (f138_2 x0 x3 x9 x35 x74 h)
noncomputable def f138_4 (x0 : V) (x3 : V) (x9 : V) (x30 : V) (h : HT) : Option J := tstv x30 (ret1 (.tuple []) h)
  (bndN (kMkM []) h fun x31 h =>
  bndE (dMset h false [.i] [x31, (.int .i64 (.ofNat (nat_lit 2))), (.int .i64 (.ofNat (nat_lit 0)))]) h fun _ h =>
  bndE (dMset h false [.i] [x31, (.int .i64 (.ofNat (nat_lit 4))), (.int .i64 (.ofNat (nat_lit 1)))]) h fun _ h =>
  bndE (dMset h false [.i] [x31, (.int .i64 (.ofNat (nat_lit 7))), (.int .i64 (.ofNat (nat_lit 2)))]) h fun _ h =>
  bndV (kFa 0 [x3]) fun x33 =>
  bndV (qLd h none [x33]) fun x34 =>
  bndV (kLkp h.heap false [.i] (.int .i64 (.ofNat (nat_lit 0))) false [x31, x34]) fun x35 =>
  bndV (kNilc [x9]) fun x37 =>
  bndV (kFa 2 [x37]) fun x38 =>
  bndV (qLd h none [x38]) fun x39 =>
  bndV (kBin .neq [x39, x35]) fun x41 =>
  tstv x41 (ret1 (.tuple []) h)
  ((f138_3 x0 x3 x9 x35 h)))
noncomputable def f138_5 (x0 : V) (x3 : V) (x9 : V) (x11 : V) (x15 : V) (h : HT) : Option J := bndC (gsel x11 false (retV (qLd h (some 2) [x15]) h) h) fun x16 h =>
  bndC (gsel x11 false (retV (kFa 5 [x3]) h) h) fun x17 h =>
  bndC (gsel x11 false (retV (qLd h (some 2) [x17]) h) h) fun x18 h =>
  bndC (gsel x11 false (retV (kEqF true [.i, .i] [x16, x18]) h) h) fun x19 h =>
  bndV (kPick [x11, (.bool true), x19]) fun x20 =>
  bndC (gsel x20 false (retV (kMov [x9]) h) h) fun x22 h =>
  bndC (gsel x20 false (retV (kFa 1 [x3]) h) h) fun x23 h =>
  bndC (gsel x20 false (retV (qLd h none [x23]) h) h) fun x24 h =>
  bndC (gsel x20 false (retV (kNilc [x22]) h) h) fun x25 h =>
  bndC (gsel x20 false (retV (kFa 21 [x25]) h) h) fun x26 h =>
  bndC (gsel x20 false (retV (kIaA 7 1 [x26, x24]) h) h) fun x27 h =>
  bndC (gsel x20 false (retV (qLd h none [x27]) h) h) fun x28 h =>
  bndC (gsel x20 false (retV (kBin .neq [x28, (.int .i64 (.ofNat (nat_lit 0)))]) h) h) fun x29 h =>
  bndV (kPick [x20, (.bool true), x29]) fun x30 =>
  (f138_4 x0 x3 x9 x30 h)
noncomputable def f138 (vs : List V) (h : HT) : Option J := unc vs fun x0 vs =>
  unc vs fun x1 vs =>
  bndN (kBox [x1]) h fun x3 h =>
  bndV (kFa 3 [x3]) fun x7 =>
  bndV (qLd h (some 2) [x7]) fun x8 =>
  bndC (f207 [x0, x8] h) fun x9 h =>
  bndV (kEqN false [x9, (.ptr none)]) fun x11 =>
  bndC (gsel x11 false (retV (kMov [x9]) h) h) fun x13 h =>
  bndC (gsel x11 false (retV (kNilc [x13]) h) h) fun x14 h =>
  bndC (gsel x11 false (retV (kFa 3 [x14]) h) h) fun x15 h =>
  (f138_5 x0 x3 x9 x11 x15 h)
def a138 : List Ann := [.no, .no, .no, .no, .no, .no]
theorem e138 : f138 = evFun Tryz.prog 138 2 a138 t138 := by kernel_rfl
theorem o138 : FnOk Tryz.prog 138 f138 := .of hmO (show enters Tryz.prog 138 = true by kernel_rfl) e138 (.cons o207 (.cons o211 (.cons o212 (.cons o213 (.cons o214 (.nil))))))

/- (*concord/core.Core).Take -/
noncomputable def l47 : List (Nat × (List V → HT → Option J)) := [(44, f44), (133, f133), (134, f134), (135, f135), (136, f136), (138, f138)]
noncomputable def t47 : Fns := tab l47
noncomputable def f47_0 (x0 : V) (x3 : V) (x69 : V) (h : HT) : Option J := bndV (kBin .eql [x69, (.int .i64 (.ofNat (nat_lit 5)))]) fun x70 =>
  tstv x70 (bndV (qLd h (some 51) [x3]) fun x72 =>
  bndC (f136 [x0, x72] h) fun x73 h =>
  ret1 (.bool false) h)
  (bndV (kFa 0 [x3]) fun x75 =>
  bndV (qLd h none [x75]) fun x76 =>
  bndV (kBin .eql [x76, (.int .i64 (.ofNat (nat_lit 8)))]) fun x77 =>
  tstv x77 (bndV (qLd h (some 51) [x3]) fun x79 =>
  bndC (noF [x0, x79] h) fun x80 h =>
  ret1 (.bool false) h)
  (bndV (qLd h (some 51) [x3]) fun x60 =>
  bndC (f138 [x0, x60] h) fun x61 h =>
  ret1 (.bool false) h))
noncomputable def f47_1 (x0 : V) (x3 : V) (x50 : V) (h : HT) : Option J := bndV (kNilc [x0]) fun x52 =>
  bndV (kFa 2 [x52]) fun x53 =>
  bndV (qLd h none [x53]) fun x54 =>
  bndV (kFa 3 [x3]) fun x55 =>
  bndV (qLd h (some 2) [x55]) fun x56 =>
  bndC (f134 [x54, x56] h) fun x57 h =>
  tstv x57 (ret1 x50 h)
  (tstv x50 (bndV (qLd h (some 51) [x3]) fun x65 =>
  bndC (f135 [x0, x65] h) fun x66 h =>
  ret1 (.bool false) h)
  (bndV (kFa 0 [x3]) fun x68 =>
  bndV (qLd h none [x68]) fun x69 =>
  (f47_0 x0 x3 x69 h)))
noncomputable def f47_2 (x0 : V) (x3 : V) (x29 : V) (x36 : V) (h : HT) : Option J := bndV (kPick [x29, (.bool true), x36]) fun x37 =>
  tstv x37 (ret1 (.bool false) h)
  (bndV (kFa 0 [x3]) fun x38 =>
  bndV (qLd h none [x38]) fun x39 =>
  bndV (kBin .eql [x39, (.int .i64 (.ofNat (nat_lit 1)))]) fun x40 =>
  bndC (gsel x40 false (retV (kFa 0 [x3]) h) h) fun x42 h =>
  bndC (gsel x40 false (retV (qLd h none [x42]) h) h) fun x43 h =>
  bndC (gsel x40 false (retV (kBin .eql [x43, (.int .i64 (.ofNat (nat_lit 3)))]) h) h) fun x44 h =>
  bndV (kPick [x40, (.bool true), x44]) fun x45 =>
  bndC (gsel x45 false (retV (kFa 0 [x3]) h) h) fun x47 h =>
  bndC (gsel x45 false (retV (qLd h none [x47]) h) h) fun x48 h =>
  bndC (gsel x45 false (retV (kBin .eql [x48, (.int .i64 (.ofNat (nat_lit 6)))]) h) h) fun x49 h =>
  bndV (kPick [x45, (.bool true), x49]) fun x50 =>
  (f47_1 x0 x3 x50 h))
noncomputable def f47_3 (x0 : V) (x3 : V) (x17 : V) (x19 : V) (x20 : V) (h : HT) : Option J := bndC (gsel x17 false (retV (qLd h none [x20]) h) h) fun x21 h =>
  bndC (gsel x17 false (f133 [x19, x21] h) h) fun x22 h =>
  bndC (gsel x17 false (retV (kUn .not [x22]) h) h) fun x23 h =>
  bndV (kPick [x17, (.bool true), x23]) fun x24 =>
  bndC (gsel x24 false (retV (kFa 0 [x3]) h) h) fun x26 h =>
  bndC (gsel x24 false (retV (qLd h none [x26]) h) h) fun x27 h =>
  bndC (gsel x24 false (retV (kBin .geq [x27, (.int .i64 (.ofNat (nat_lit 9)))]) h) h) fun x28 h =>
  bndV (kPick [x24, (.bool true), x28]) fun x29 =>
  bndC (gsel x29 false (retV (kMov [x0]) h) h) fun x31 h =>
  bndC (gsel x29 false (retV (kFa 3 [x3]) h) h) fun x32 h =>
  bndC (gsel x29 false (retV (kFa 0 [x32]) h) h) fun x33 h =>
  bndC (gsel x29 false (retV (qLd h none [x33]) h) h) fun x34 h =>
  bndC (gsel x29 false (f133 [x31, x34] h) h) fun x35 h =>
  bndC (gsel x29 false (retV (kUn .not [x35]) h) h) fun x36 h =>
  (f47_2 x0 x3 x29 x36 h)
noncomputable def f47_4 (x0 : V) (x1 : V) (h : HT) : Option J := bndN (kBox [x1]) h fun x3 h =>
  bndV (qLd h (some 51) [x3]) fun x6 =>
  bndC (f44 [x6] h) fun x7 h =>
  bndV (kUn .not [x7]) fun x8 =>
  bndC (gsel x8 false (retV (kFa 2 [x3]) h) h) fun x10 h =>
  bndC (gsel x8 false (retV (qLd h none [x10]) h) h) fun x11 h =>
  bndC (gsel x8 false (retV (kMov [x0]) h) h) fun x12 h =>
  bndC (gsel x8 false (retV (kNilc [x12]) h) h) fun x13 h =>
  bndC (gsel x8 false (retV (kFa 1 [x13]) h) h) fun x14 h =>
  bndC (gsel x8 false (retV (qLd h none [x14]) h) h) fun x15 h =>
  bndC (gsel x8 false (retV (kBin .neq [x11, x15]) h) h) fun x16 h =>
  bndV (kPick [x8, (.bool true), x16]) fun x17 =>
  bndC (gsel x17 false (retV (kMov [x0]) h) h) fun x19 h =>
  bndC (gsel x17 false (retV (kFa 1 [x3]) h) h) fun x20 h =>
  (f47_3 x0 x3 x17 x19 x20 h)
noncomputable def f47 (vs : List V) (h : HT) : Option J := unc vs fun x0 vs =>
  unc vs fun x1 vs =>
  (f47_4 x0 x1 h)
def a47 : List Ann := [.no, .no, .no, .no, .no, .no]
theorem e47 : f47 = evFun Tryz.prog 47 2 a47 t47 := by kernel_rfl
theorem o47 : FnOk Tryz.prog 47 f47 := .of hmO (show enters Tryz.prog 47 = true by kernel_rfl) e47 (.cons o44 (.cons o133 (.cons o134 (.cons o135 (.cons o136 (.cons o138 (.nil)))))))

/- (*concord/node.Node).Take -/
noncomputable def l13 : List (Nat × (List V → HT → Option J)) := [(38, f38), (39, f39), (44, f44), (45, f45), (47, f47)]
noncomputable def t13 : Fns := tab l13
noncomputable def f13_0 (x0 : V) (x3 : V) (x61 : V) (h : HT) : Option J := tstv x61 (bndV (kFa 50 [x3]) fun x63 =>
  bndV (qLd h none [x63]) fun x64 =>
  bndN (kS2b [x64]) h fun x65 h =>
  bndC (noF [x0, x65] h) fun x66 h =>
  some ⟨0, [x0], h⟩)
  (bndV (kNilc [x0]) fun x35 =>
  bndV (kFa 4 [x35]) fun x36 =>
  bndV (qLd h none [x36]) fun x37 =>
  bndV (qLd h (some 51) [x3]) fun x38 =>
  bndC (f47 [x37, x38] h) fun x39 h =>
  bndJ (tstv x39 (bndV (kFa 1 [x3]) fun x41 =>
  bndV (qLd h none [x41]) fun x42 =>
  bndC (noF [x0, x42] h) fun x43 h =>
  some ⟨0, [x0], h⟩)
  (some ⟨0, [x0], h⟩))
  fun j vs h => unc vs fun x0 vs =>
  some ⟨0, [x0], h⟩)
noncomputable def f13_1 (x0 : V) (x3 : V) (x33 : V) (x45 : V) (h : HT) : Option J := tstv x45 (bndV (kNilc [x0]) fun x47 =>
  bndV (kFa 5 [x47]) fun x48 =>
  bndV (qLd h none [x48]) fun x49 =>
  bndV (kFa 1 [x3]) fun x50 =>
  bndV (qLd h none [x50]) fun x51 =>
  bndV (kFa 43 [x3]) fun x52 =>
  bndV (qLd h (some 7) [x52]) fun x53 =>
  bndC (f38 [x49, x51, x53] h) fun x54 h =>
  some ⟨0, [x0], h⟩)
  (bndV (kBin .eql [x33, (.int .i64 (.ofNat (nat_lit 11)))]) fun x56 =>
  bndJ (tstv x56 (bndV (qLd h (some 51) [x3]) fun x58 =>
  bndC (f45 [x0, x58] h) fun x59 h =>
  some ⟨0, [x0], h⟩)
  (bndV (kBin .eql [x33, (.int .i64 (.ofNat (nat_lit 10)))]) fun x61 =>
  bndJ ((f13_0 x0 x3 x61 h))
  fun j vs h => unc vs fun x0 vs =>
  some ⟨0, [x0], h⟩))
  fun j vs h => unc vs fun x0 vs =>
  some ⟨0, [x0], h⟩)
noncomputable def f13_2 (x0 : V) (x3 : V) (x22 : V) (x25 : V) (x26 : V) (h : HT) : Option J := bndC (gsel x22 false (retV (kNilc [x26]) h) h) fun x27 h =>
  bndC (gsel x22 false (retV (kFa 0 [x27]) h) h) fun x28 h =>
  bndC (gsel x22 false (retV (qLd h none [x28]) h) h) fun x29 h =>
  bndC (gsel x22 false (retV (kBin .geq [x25, x29]) h) h) fun x30 h =>
  bndV (kPick [x22, (.bool true), x30]) fun x31 =>
  tstv x31 (ret1 (.bool false) h)
  (bndV (kFa 0 [x3]) fun x32 =>
  bndV (qLd h none [x32]) fun x33 =>
  bndV (kBin .eql [x33, (.int .i64 (.ofNat (nat_lit 9)))]) fun x45 =>
  bndJ ((f13_1 x0 x3 x33 x45 h))
  fun j vs h => unc vs fun x0 vs =>
  bndC (f39 [x0] h) fun x68 h =>
  ret1 (.bool true) h)
noncomputable def f13_3 (x0 : V) (x3 : V) (x8 : V) (x10 : V) (h : HT) : Option J := bndC (gsel x8 false (f44 [x10] h) h) fun x11 h =>
  bndC (gsel x8 false (retV (kUn .not [x11]) h) h) fun x12 h =>
  bndV (kPick [x8, (.bool true), x12]) fun x13 =>
  bndC (gsel x13 false (retV (kFa 2 [x3]) h) h) fun x15 h =>
  bndC (gsel x13 false (retV (qLd h none [x15]) h) h) fun x16 h =>
  bndC (gsel x13 false (retV (kMov [x0]) h) h) fun x17 h =>
  bndC (gsel x13 false (retV (kNilc [x17]) h) h) fun x18 h =>
  bndC (gsel x13 false (retV (kFa 1 [x18]) h) h) fun x19 h =>
  bndC (gsel x13 false (retV (qLd h none [x19]) h) h) fun x20 h =>
  bndC (gsel x13 false (retV (kBin .neq [x16, x20]) h) h) fun x21 h =>
  bndV (kPick [x13, (.bool true), x21]) fun x22 =>
  bndC (gsel x22 false (retV (kFa 1 [x3]) h) h) fun x24 h =>
  bndC (gsel x22 false (retV (qLd h none [x24]) h) h) fun x25 h =>
  bndC (gsel x22 false (retV (kMov [x0]) h) h) fun x26 h =>
  (f13_2 x0 x3 x22 x25 x26 h)
noncomputable def f13 (vs : List V) (h : HT) : Option J := unc vs fun x0 vs =>
  unc vs fun x1 vs =>
  bndN (kBox [x1]) h fun x3 h =>
  bndV (kNilc [x0]) fun x6 =>
  bndV (kFa 74 [x6]) fun x7 =>
  bndV (qLd h none [x7]) fun x8 =>
  bndC (gsel x8 false (retV (qLd h (some 51) [x3]) h) h) fun x10 h =>
  (f13_3 x0 x3 x8 x10 h)
def a13 : List Ann := [.no, .no, .join [(.normal, [0])], .join [(.normal, [0])], .join [(.normal, [0])], .join [(.normal, [0])]]
theorem e13 : f13 = evFun Tryz.prog 13 2 a13 t13 := by kernel_rfl
theorem o13 : FnOk Tryz.prog 13 f13 := .of hmO (show enters Tryz.prog 13 = true by kernel_rfl) e13 (.cons o38 (.cons o39 (.cons o44 (.cons o45 (.cons o47 (.nil))))))

/- (*concord/cluster.Cluster).letter -/
noncomputable def l55 : List (Nat × (List V → HT → Option J)) := [(13, f13), (53, f53), (58, f58), (144, cDelLetter)]
noncomputable def t55 : Fns := tab l55
noncomputable def f55_0 (x0 : V) (x3 : V) (x5 : V) (x30 : V) (h : HT) : Option J := tstv x30 (bndV (kNilc [x0]) fun x33 =>
  bndV (kFa 5 [x33]) fun x34 =>
  bndV (qLd h none [x34]) fun x35 =>
  bndV (kFa 1 [x3]) fun x36 =>
  bndV (qLd h none [x36]) fun x37 =>
  bndV (kFa 1 [x3]) fun x38 =>
  bndV (qLd h none [x38]) fun x39 =>
  bndV (kBin .add [x39, (.int .i64 (.ofNat (nat_lit 1)))]) fun x40 =>
  bndC (cDelLetter [x35, x37, x40] h) fun x41 h =>
  bndV (kNilc [x0]) fun x42 =>
  bndV (kFa 5 [x42]) fun x43 =>
  bndE (dSt h 1 [x43, x41]) h fun _ h =>
  some ⟨0, [x0, x3, x5], h⟩)
  (some ⟨0, [x0, x3, x5], h⟩)
noncomputable def f55_1 (x0 : V) (x3 : V) (x5 : V) (x46 : V) (h : HT) : Option J := bndC (f58 [x0, x46] h) fun x47 h =>
  bndV (kFa 0 [x3]) fun x48 =>
  bndV (qLd h none [x48]) fun x49 =>
  bndV (kBin .neq [x49, (.int .i64 (.ofNat (nat_lit 4)))]) fun x50 =>
  bndC (gsel x50 true (retV (kMov [x47]) h) h) fun x52 h =>
  bndC (gsel x50 true (retV (kEqN true [x52, (.ptr none)]) h) h) fun x53 h =>
  bndV (kPick [x50, x53, (.bool false)]) fun x54 =>
  tstv x54 (bndV (qLd h (some 51) [x5]) fun x56 =>
  bndC (f13 [x47, x56] h) fun x57 h =>
  bndV (kFa 2 [x5]) fun x59 =>
  bndV (qLd h none [x59]) fun x60 =>
  bndC (f53 [x0, x60] h) fun x61 h =>
  ret1 (.bool true) h)
  (ret1 (.bool true) h)
noncomputable def f55_2 (x0 : V) (x3 : V) (x23 : V) (x25 : V) (h : HT) : Option J := bndV (kIaS 51 [x23, x25]) fun x26 =>
  bndV (qLd h (some 51) [x26]) fun x27 =>
  bndN (kAlloc [(.int .i64 (.ofNat (nat_lit 0))), (.int .i64 (.ofNat (nat_lit 0))), (.int .i64 (.ofNat (nat_lit 0))), (.int .i64 (.ofNat (nat_lit 0))), (.int .i64 (.ofNat (nat_lit 0))), (.int .i64 (.ofNat (nat_lit 0))), (.int .i64 (.ofNat (nat_lit 0))), (.int .i64 (.ofNat (nat_lit 0))), (.int .i64 (.ofNat (nat_lit 0))), (.int .i64 (.ofNat (nat_lit 0))), (.str (sb [])), (.str (sb [])), (.str (sb [])), (.str (sb [])), (.int .i64 (.ofNat (nat_lit 0))), (.int .i64 (.ofNat (nat_lit 0))), (.int .i64 (.ofNat (nat_lit 0))), (.int .i64 (.ofNat (nat_lit 0))), (.int .i64 (.ofNat (nat_lit 0))), (.int .i64 (.ofNat (nat_lit 0))), (.int .i64 (.ofNat (nat_lit 0))), (.int .i64 (.ofNat (nat_lit 0))), (.int .i64 (.ofNat (nat_lit 0))), (.int .i64 (.ofNat (nat_lit 0))), (.int .i64 (.ofNat (nat_lit 0))), (.int .i64 (.ofNat (nat_lit 0))), (.int .i64 (.ofNat (nat_lit 0))), (.int .i64 (.ofNat (nat_lit 0))), (.int .i64 (.ofNat (nat_lit 0))), (.int .i64 (.ofNat (nat_lit 0))), (.str (sb [])), (.str (sb [])), (.str (sb [])), (.str (sb [])), (.int .i64 (.ofNat (nat_lit 0))), (.int .i64 (.ofNat (nat_lit 0))), (.int .i64 (.ofNat (nat_lit 0))), (.int .i64 (.ofNat (nat_lit 0))), (.int .i64 (.ofNat (nat_lit 0))), (.int .i64 (.ofNat (nat_lit 0))), (.int .i64 (.ofNat (nat_lit 0))), (.int .i64 (.ofNat (nat_lit 0))), (.bool false), (.int .i64 (.ofNat (nat_lit 0))), (.int .i64 (.ofNat (nat_lit 0))), (.int .i64 (.ofNat (nat_lit 0))), (.int .i64 (.ofNat (nat_lit 0))), (.int .i64 (.ofNat (nat_lit 0))), (.int .i64 (.ofNat (nat_lit 0))), (.int .i64 (.ofNat (nat_lit 0))), (.str (sb []))] []) h fun x5 h =>
  bndE (dSt h 51 [x5, x27]) h fun _ h =>
  bndV (kFa 0 [x3]) fun x28 =>
  bndV (qLd h none [x28]) fun x29 =>
  bndV (kBin .neq [x29, (.int .i64 (.ofNat (nat_lit 3)))]) fun x30 =>
  bndJ ((f55_0 x0 x3 x5 x30 h))
  fun j vs h => unc vs fun x0 vs =>
  unc vs fun x3 vs =>
  unc vs fun x5 vs =>
  bndV (kFa 2 [x5]) fun x45 =>
  bndV (qLd h none [x45]) fun x46 =>
  (f55_1 x0 x3 x5 x46 h)
noncomputable def f55_3 (x0 : V) (x3 : V) (x9 : V) (x12 : V) (h : HT) : Option J := bndC (gsel x9 false (retV (kMov [x0]) h) h) fun x13 h =>
  bndC (gsel x9 false (retV (kNilc [x13]) h) h) fun x14 h =>
  bndC (gsel x9 false (retV (kFa 5 [x14]) h) h) fun x15 h =>
  bndC (gsel x9 false (retV (qLd h none [x15]) h) h) fun x16 h =>
  bndC (gsel x9 false (retV (kLenS [x16]) h) h) fun x17 h =>
  bndC (gsel x9 false (retV (kBin .geq [x12, x17]) h) h) fun x18 h =>
  bndV (kPick [x9, (.bool true), x18]) fun x19 =>
  tstv x19 (ret1 (.bool false) h)
  (bndV (kNilc [x0]) fun x21 =>
  bndV (kFa 5 [x21]) fun x22 =>
  bndV (qLd h none [x22]) fun x23 =>
  bndV (kFa 1 [x3]) fun x24 =>
  bndV (qLd h none [x24]) fun x25 =>
  (f55_2 x0 x3 x23 x25 h))
noncomputable def f55 (vs : List V) (h : HT) : Option J := unc vs fun x0 vs =>
  unc vs fun x1 vs =>
  bndN (kBox [x1]) h fun x3 h =>
  bndV (kFa 1 [x3]) fun x7 =>
  bndV (qLd h none [x7]) fun x8 =>
  bndV (kBin .lss [x8, (.int .i64 (.ofNat (nat_lit 0)))]) fun x9 =>
  bndC (gsel x9 false (retV (kFa 1 [x3]) h) h) fun x11 h =>
  bndC (gsel x9 false (retV (qLd h none [x11]) h) h) fun x12 h =>
  (f55_3 x0 x3 x9 x12 h)
def a55 : List Ann := [.no, .join [(.normal, [0, 3, 5])], .no]
theorem e55 : f55 = evFun Tryz.prog 55 2 a55 t55 := by kernel_rfl
theorem o55 : FnOk Tryz.prog 55 f55 := .of hmO (show enters Tryz.prog 55 = true by kernel_rfl) e55 (.cons o13 (.cons o53 (.cons o58 (.cons o144 (.nil)))))

/- (*concord/client.Client).Tick -/
noncomputable def l145 : List (Nat × (List V → HT → Option J)) := []
noncomputable def t145 : Fns := tab l145
noncomputable def f145_0 (x0 : V) (x1 : V) (x4 : V) (x35 : V) (h : HT) : Option J := bndV (kBin .add [x35, (.int .i64 (.ofNat (nat_lit 1)))]) fun x36 =>
  bndV (kBin .rem [x36, x1]) fun x38 =>
  bndV (kNilc [x0]) fun x39 =>
  bndV (kFa 10 [x39]) fun x40 =>
  bndE (dSt h 1 [x40, x38]) h fun _ h =>
  bndV (kNilc [x0]) fun x42 =>
  bndV (kFa 2 [x42]) fun x43 =>
  bndV (qLd h (some 7) [x43]) fun x44 =>
  bndV (kNilc [x0]) fun x46 =>
  bndV (kFa 10 [x46]) fun x47 =>
  bndV (qLd h none [x47]) fun x48 =>
  bndE (dSt h 7 [x4, x44]) h fun _ h =>
  chk1 (sameE (qLd h none [x47]) x48) (bndV (qLd h (some 7) [x4]) fun x900000 =>
  ret1 (.tuple [x900000, x48, (.bool true)]) h)
noncomputable def f145_1 (x0 : V) (x1 : V) (x4 : V) (x21 : V) (x23 : V) (h : HT) : Option J := bndE (dSt h 1 [x23, x21]) h fun _ h =>
  bndV (kNilc [x0]) fun x25 =>
  bndV (kFa 11 [x25]) fun x26 =>
  bndV (qLd h none [x26]) fun x27 =>
  bndV (kBin .rem [x27, (.int .i64 (.ofNat (nat_lit 20)))]) fun x28 =>
  bndV (kBin .neq [x28, (.int .i64 (.ofNat (nat_lit 0)))]) fun x29 =>
  tstv x29 (bndV (kBld [(.int .i64 (.ofNat (nat_lit 0))), (.int .i64 (.ofNat (nat_lit 0))), (.int .i64 (.ofNat (nat_lit 0))), (.str (sb [])), (.str (sb [])), (.str (sb [])), (.str (sb []))] [] []) fun x30 =>
  bndE (dSt h 7 [x4, x30]) h fun _ h =>
  bndV (qLd h (some 7) [x4]) fun x900000 =>
  ret1 (.tuple [x900000, (.int .i64 (.ofNat (nat_lit 0))), (.bool false)]) h)
  (bndV (kNilc [x0]) fun x33 =>
  bndV (kFa 10 [x33]) fun x34 =>
  bndV (qLd h none [x34]) fun x35 =>
  (f145_0 x0 x1 x4 x35 h))
noncomputable def f145_2 (x0 : V) (x1 : V) (x4 : V) (x11 : V) (h : HT) : Option J := bndC (gsel x11 false (retV (kMov [x1]) h) h) fun x13 h =>
  bndC (gsel x11 false (retV (kBin .lss [x13, (.int .i64 (.ofNat (nat_lit 1)))]) h) h) fun x14 h =>
  bndV (kPick [x11, (.bool true), x14]) fun x15 =>
  tstv x15 (bndV (kBld [(.int .i64 (.ofNat (nat_lit 0))), (.int .i64 (.ofNat (nat_lit 0))), (.int .i64 (.ofNat (nat_lit 0))), (.str (sb [])), (.str (sb [])), (.str (sb [])), (.str (sb []))] [] []) fun x16 =>
  bndE (dSt h 7 [x4, x16]) h fun _ h =>
  bndV (qLd h (some 7) [x4]) fun x900000 =>
  ret1 (.tuple [x900000, (.int .i64 (.ofNat (nat_lit 0))), (.bool false)]) h)
  (bndV (kNilc [x0]) fun x18 =>
  bndV (kFa 11 [x18]) fun x19 =>
  bndV (qLd h none [x19]) fun x20 =>
  bndV (kBin .add [x20, (.int .i64 (.ofNat (nat_lit 1)))]) fun x21 =>
  bndV (kNilc [x0]) fun x22 =>
  bndV (kFa 11 [x22]) fun x23 =>
  (f145_1 x0 x1 x4 x21 x23 h))
noncomputable def f145 (vs : List V) (h : HT) : Option J := unc vs fun x0 vs =>
  unc vs fun x1 vs =>
  bndN (kAlloc [(.int .i64 (.ofNat (nat_lit 0))), (.int .i64 (.ofNat (nat_lit 0))), (.int .i64 (.ofNat (nat_lit 0))), (.str (sb [])), (.str (sb [])), (.str (sb [])), (.str (sb []))] []) h fun x4 h =>
  bndV (kNilc [x0]) fun x8 =>
  bndV (kFa 9 [x8]) fun x9 =>
  bndV (qLd h none [x9]) fun x10 =>
  bndV (kUn .not [x10]) fun x11 =>
  (f145_2 x0 x1 x4 x11 h)
def a145 : List Ann := [.no, .no]
theorem e145 : f145 = evFun Tryz.prog 145 2 a145 t145 := by kernel_rfl
theorem o145 : FnOk Tryz.prog 145 f145 := .of hmO (show enters Tryz.prog 145 = true by kernel_rfl) e145 (.nil)

/- (*concord/cluster.Cluster).time -/
noncomputable def l56 : List (Nat × (List V → HT → Option J)) := [(64, f64), (143, f143), (145, f145)]
noncomputable def t56 : Fns := tab l56
noncomputable def f56_0 (x0 : V) (x18 : V) (h : HT) : Option J := bndV (qLd h none [x18]) fun x19 =>
  bndV (kNilc [x0]) fun x21 =>
  bndV (kFa 0 [x21]) fun x22 =>
  bndV (qLd h none [x22]) fun x23 =>
  bndN (kAlloc [(.int .i64 (.ofNat (nat_lit 0))), (.int .i64 (.ofNat (nat_lit 0))), (.int .i64 (.ofNat (nat_lit 0))), (.str (sb [])), (.str (sb [])), (.str (sb [])), (.str (sb []))] []) h fun x5 h =>
  bndC (f145 [x19, x23] h) fun x24 h =>
  bndV (kExt 0 [x24]) fun x25 =>
  bndV (kExt 1 [x24]) fun x26 =>
  bndV (kExt 2 [x24]) fun x27 =>
  bndE (dSt h 7 [x5, x25]) h fun _ h =>
  tstv x27 (bndV (qLd h (some 7) [x5]) fun x30 =>
  bndC (f143 [x0, x30, x26] h) fun x32 h =>
  ret1 (.bool true) h)
  (ret1 (.bool true) h)
noncomputable def f56 (vs : List V) (h : HT) : Option J := unc vs fun x0 vs =>
  unc vs fun x1 vs =>
  bndC (f64 [x1] h) fun x9 h =>
  bndV (kUn .not [x9]) fun x10 =>
  tstv x10 (ret1 (.bool false) h)
  (bndV (kNilc [x0]) fun x13 =>
  bndV (kFa 3 [x13]) fun x14 =>
  bndV (qLd h none [x14]) fun x15 =>
  bndV (kBin .sub [x1, (.int .i64 (.ofNat (nat_lit 1)))]) fun x17 =>
  bndV (kIaS 1 [x15, x17]) fun x18 =>
  (f56_0 x0 x18 h))
def a56 : List Ann := [.no, .no]
theorem e56 : f56 = evFun Tryz.prog 56 2 a56 t56 := by kernel_rfl
theorem o56 : FnOk Tryz.prog 56 f56 := .of hmO (show enters Tryz.prog 56 = true by kernel_rfl) e56 (.cons o64 (.cons o143 (.cons o145 (.nil))))

/- (*concord/cluster.Cluster).start -/
noncomputable def l57 : List (Nat × (List V → HT → Option J)) := [(9, f9), (53, f53)]
noncomputable def t57 : Fns := tab l57
noncomputable def f57_0 (x0 : V) (x1 : V) (x31 : V) (x36 : V) (h : HT) : Option J := bndV (kIaS 1 [x36, x1]) fun x38 =>
  bndV (qLd h none [x38]) fun x39 =>
  bndC (f9 [x31, x1, x39] h) fun x40 h =>
  bndV (kExt 0 [x40]) fun x41 =>
  bndV (kExt 1 [x40]) fun x42 =>
  bndV (kBin .neq [x42, (.int .i64 (.ofNat (nat_lit 0)))]) fun x44 =>
  tstv x44 (ret1 (.bool false) h)
  (bndV (kNilc [x0]) fun x46 =>
  bndV (kFa 2 [x46]) fun x47 =>
  bndV (qLd h none [x47]) fun x48 =>
  bndV (kIaS 1 [x48, x1]) fun x51 =>
  bndE (dSt h 1 [x51, x41]) h fun _ h =>
  bndC (f53 [x0, x1] h) fun x54 h =>
  ret1 (.bool true) h)
noncomputable def f57_1 (x0 : V) (x1 : V) (x16 : V) (x20 : V) (h : HT) : Option J := bndC (gsel x16 false (retV (qLd h none [x20]) h) h) fun x21 h =>
  bndC (gsel x16 false (retV (kMov [x1]) h) h) fun x22 h =>
  bndC (gsel x16 false (retV (kIaS 1 [x21, x22]) h) h) fun x23 h =>
  bndC (gsel x16 false (retV (qLd h none [x23]) h) h) fun x24 h =>
  bndC (gsel x16 false (retV (kEqN true [x24, (.ptr none)]) h) h) fun x25 h =>
  bndV (kPick [x16, (.bool true), x25]) fun x26 =>
  tstv x26 (ret1 (.bool false) h)
  (bndV (kNilc [x0]) fun x29 =>
  bndV (kFa 0 [x29]) fun x30 =>
  bndV (qLd h none [x30]) fun x31 =>
  bndV (kNilc [x0]) fun x34 =>
  bndV (kFa 1 [x34]) fun x35 =>
  bndV (qLd h none [x35]) fun x36 =>
  (f57_0 x0 x1 x31 x36 h))
noncomputable def f57 (vs : List V) (h : HT) : Option J := unc vs fun x0 vs =>
  unc vs fun x1 vs =>
  bndV (kBin .lss [x1, (.int .i64 (.ofNat (nat_lit 0)))]) fun x8 =>
  bndC (gsel x8 false (retV (kMov [x1]) h) h) fun x10 h =>
  bndC (gsel x8 false (retV (kMov [x0]) h) h) fun x11 h =>
  bndC (gsel x8 false (retV (kNilc [x11]) h) h) fun x12 h =>
  bndC (gsel x8 false (retV (kFa 0 [x12]) h) h) fun x13 h =>
  bndC (gsel x8 false (retV (qLd h none [x13]) h) h) fun x14 h =>
  bndC (gsel x8 false (retV (kBin .geq [x10, x14]) h) h) fun x15 h =>
  bndV (kPick [x8, (.bool true), x15]) fun x16 =>
  bndC (gsel x16 false (retV (kMov [x0]) h) h) fun x18 h =>
  bndC (gsel x16 false (retV (kNilc [x18]) h) h) fun x19 h =>
  bndC (gsel x16 false (retV (kFa 2 [x19]) h) h) fun x20 h =>
  (f57_1 x0 x1 x16 x20 h)
def a57 : List Ann := [.no, .no]
theorem e57 : f57 = evFun Tryz.prog 57 2 a57 t57 := by kernel_rfl
theorem o57 : FnOk Tryz.prog 57 f57 := .of hmO (show enters Tryz.prog 57 = true by kernel_rfl) e57 (.cons o9 (.cons o53 (.nil)))

/- (*concord/core.Core).wished -/
noncomputable def l210 : List (Nat × (List V → HT → Option J)) := []
noncomputable def t210 : Fns := tab l210
noncomputable def f210_0 (rc : List V → HT → Option J) (x3 : V) (x10 : V) (x11 : V) (vs : List V) (h : HT) : Option J := unc vs fun x12 vs =>
  bndV (kBin .lss [x12, x11]) fun x13 =>
  tstv x13 (bndV (kIaS 1 [x10, x12]) fun x14 =>
  bndV (qLd h none [x14]) fun x15 =>
  bndV (kNilc [x15]) fun x17 =>
  bndV (kFa 0 [x17]) fun x18 =>
  bndV (qLd h (some 2) [x18]) fun x19 =>
  bndV (qLd h (some 2) [x3]) fun x20 =>
  bndV (kEqF false [.i, .i] [x19, x20]) fun x21 =>
  tstv x21 (some ⟨1, [x15], h⟩)
  (bndV (kBin .add [x12, (.int .i64 (.ofNat (nat_lit 1)))]) fun x23 =>
  rc [x3, x10, x11, x23] h))
  (some ⟨0, [], h⟩)
noncomputable def f210_1 (x0 : V) (x1 : V) (h : HT) : Option J := bndN (kBox [x1]) h fun x3 h =>
  bndV (kNilc [x0]) fun x8 =>
  bndV (kFa 5 [x8]) fun x9 =>
  bndV (qLd h none [x9]) fun x10 =>
  bndV (kLenS [x10]) fun x11 =>
  bndJ (loopF (fun rc vs h => unc vs fun x3 vs =>
  unc vs fun x10 vs =>
  unc vs fun x11 vs =>
  (f210_0 rc x3 x10 x11 vs h)) 1000000 [x3, x10, x11, (.int .i64 (.ofNat (nat_lit 0)))] h)
  fun j vs h => nsw j (ret1 (.ptr none) h)
  fun j => unc vs fun x4 vs =>
  ret1 x4 h
noncomputable def f210 (vs : List V) (h : HT) : Option J := unc vs fun x0 vs =>
  unc vs fun x1 vs =>
  (f210_1 x0 x1 h)
def a210 : List Ann := [.no, .loop [3, 10, 11, 12] [((.exit 0), []), (.ret, [4])], .no, .no, .no]
theorem e210 : f210 = evFun Tryz.prog 210 2 a210 t210 := by kernel_rfl
theorem o210 : FnOk Tryz.prog 210 f210 := .of hmO (show enters Tryz.prog 210 = true by kernel_rfl) e210 (.nil)
end Go.Cn
