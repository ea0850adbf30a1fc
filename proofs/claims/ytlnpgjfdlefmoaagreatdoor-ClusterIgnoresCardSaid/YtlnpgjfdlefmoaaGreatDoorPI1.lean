/- Functions of the program, told as plain functions of what they are called with (printed by a program of the prover). -/
import Derived.Test.YtlnpgjfdlefmoaaGreatDoorPI0
namespace Go.Cn
set_option maxRecDepth 100000
set_option linter.unusedVariables false
/- (*concord/core.lead).ask -/
noncomputable def l208 : List (Nat × (List V → HT → Option J)) := []
noncomputable def t208 : Fns := tab l208
noncomputable def f208_0 (x0 : V) (x3 : V) (x21 : V) (h : HT) : Option J := bndV (rFa 6 x21) fun x22 =>
  bndV (rLdN h 7 x22) fun x23 =>
  bndV (rNilc x0) fun x25 =>
  bndV (rFa 13 x25) fun x26 =>
  bndV (rLdN h 8 x26) fun x27 =>
  bndV (rFa 0 x3) fun x28 =>
  bndE (rSt h 1 x28 (.int .i64 (.ofNat (nat_lit 1)))) h fun _ h =>
  chk1 (sameE (rLdN h 8 x26) x27) (chk1 (sameE (rLdN h 7 x22) x23) (bndV (rFa 7 x3) fun x29 =>
  bndE (rSt h 7 x29 x23) h fun _ h =>
  chk1 (sameE (rLdN h 8 x26) x27) (bndV (rFa 14 x3) fun x30 =>
  bndE (rSt h 8 x30 x27) h fun _ h =>
  some ⟨0, [], h⟩)))
noncomputable def f208_1 (x0 : V) (x3 : V) (x34 : V) (h : HT) : Option J := bndV (rFa 6 x34) fun x35 =>
  bndV (rLdN h 7 x35) fun x36 =>
  bndV (rNilc x0) fun x38 =>
  bndV (rFa 13 x38) fun x39 =>
  bndV (rLdN h 8 x39) fun x40 =>
  bndV (rFa 0 x3) fun x41 =>
  bndE (rSt h 1 x41 (.int .i64 (.ofNat (nat_lit 3)))) h fun _ h =>
  chk1 (sameE (rLdN h 8 x39) x40) (chk1 (sameE (rLdN h 7 x35) x36) (bndV (rFa 7 x3) fun x42 =>
  bndE (rSt h 7 x42 x36) h fun _ h =>
  chk1 (sameE (rLdN h 8 x39) x40) (bndV (rFa 14 x3) fun x43 =>
  bndE (rSt h 8 x43 x40) h fun _ h =>
  some ⟨0, [], h⟩)))
noncomputable def f208_2 (x0 : V) (x2 : V) (x3 : V) (x16 : V) (x19 : V) (h : HT) : Option J := bndJ (tstv x19 (bndV (rNilc x0) fun x21 =>
  (f208_0 x0 x3 x21 h))
  (bndV (rEql x16 (.int .i64 (.ofNat (nat_lit 1)))) fun x32 =>
  bndJ (tstv x32 (bndV (rNilc x0) fun x34 =>
  (f208_1 x0 x3 x34 h))
  (bndV (rFa 0 x3) fun x17 =>
  bndE (rSt h 1 x17 (.int .i64 (.ofNat (nat_lit 6)))) h fun _ h =>
  some ⟨0, [], h⟩))
  fun j vs h => some ⟨0, [], h⟩))
  fun j vs h => bndV (rLdN h 51 x3) fun x44 =>
  bndE (rSt h 51 x2 x44) h fun _ h =>
  bndV (qLd h (some 51) [x2]) fun x900000 =>
  ret1 x900000 h
noncomputable def f208_3 (x0 : V) (h : HT) : Option J := bndN (rAlloc [(.int .i64 (.ofNat (nat_lit 0))), (.int .i64 (.ofNat (nat_lit 0))), (.int .i64 (.ofNat (nat_lit 0))), (.int .i64 (.ofNat (nat_lit 0))), (.int .i64 (.ofNat (nat_lit 0))), (.int .i64 (.ofNat (nat_lit 0))), (.int .i64 (.ofNat (nat_lit 0))), (.int .i64 (.ofNat (nat_lit 0))), (.int .i64 (.ofNat (nat_lit 0))), (.int .i64 (.ofNat (nat_lit 0))), (.str (sb [])), (.str (sb [])), (.str (sb [])), (.str (sb [])), (.int .i64 (.ofNat (nat_lit 0))), (.int .i64 (.ofNat (nat_lit 0))), (.int .i64 (.ofNat (nat_lit 0))), (.int .i64 (.ofNat (nat_lit 0))), (.int .i64 (.ofNat (nat_lit 0))), (.int .i64 (.ofNat (nat_lit 0))), (.int .i64 (.ofNat (nat_lit 0))), (.int .i64 (.ofNat (nat_lit 0))), (.int .i64 (.ofNat (nat_lit 0))), (.int .i64 (.ofNat (nat_lit 0))), (.int .i64 (.ofNat (nat_lit 0))), (.int .i64 (.ofNat (nat_lit 0))), (.int .i64 (.ofNat (nat_lit 0))), (.int .i64 (.ofNat (nat_lit 0))), (.int .i64 (.ofNat (nat_lit 0))), (.int .i64 (.ofNat (nat_lit 0))), (.str (sb [])), (.str (sb [])), (.str (sb [])), (.str (sb [])), (.int .i64 (.ofNat (nat_lit 0))), (.int .i64 (.ofNat (nat_lit 0))), (.int .i64 (.ofNat (nat_lit 0))), (.int .i64 (.ofNat (nat_lit 0))), (.int .i64 (.ofNat (nat_lit 0))), (.int .i64 (.ofNat (nat_lit 0))), (.int .i64 (.ofNat (nat_lit 0))), (.int .i64 (.ofNat (nat_lit 0))), (.bool false), (.int .i64 (.ofNat (nat_lit 0))), (.int .i64 (.ofNat (nat_lit 0))), (.int .i64 (.ofNat (nat_lit 0))), (.int .i64 (.ofNat (nat_lit 0))), (.int .i64 (.ofNat (nat_lit 0))), (.int .i64 (.ofNat (nat_lit 0))), (.int .i64 (.ofNat (nat_lit 0))), (.str (sb []))] []) h fun x2 h =>
  bndV (rNilc x0) fun x5 =>
  bndV (rFa 0 x5) fun x6 =>
  bndV (rLdN h 2 x6) fun x7 =>
  bndV (rNilc x0) fun x9 =>
  bndV (rFa 3 x9) fun x10 =>
  bndV (rLdN h 2 x10) fun x11 =>
  bndV (rBld [(.int .i64 (.ofNat (nat_lit 0))), (.int .i64 (.ofNat (nat_lit 0))), (.int .i64 (.ofNat (nat_lit 0))), (.int .i64 (.ofNat (nat_lit 0))), (.int .i64 (.ofNat (nat_lit 0))), (.int .i64 (.ofNat (nat_lit 0))), (.int .i64 (.ofNat (nat_lit 0))), (.int .i64 (.ofNat (nat_lit 0))), (.int .i64 (.ofNat (nat_lit 0))), (.int .i64 (.ofNat (nat_lit 0))), (.str (sb [])), (.str (sb [])), (.str (sb [])), (.str (sb [])), (.int .i64 (.ofNat (nat_lit 0))), (.int .i64 (.ofNat (nat_lit 0))), (.int .i64 (.ofNat (nat_lit 0))), (.int .i64 (.ofNat (nat_lit 0))), (.int .i64 (.ofNat (nat_lit 0))), (.int .i64 (.ofNat (nat_lit 0))), (.int .i64 (.ofNat (nat_lit 0))), (.int .i64 (.ofNat (nat_lit 0))), (.int .i64 (.ofNat (nat_lit 0))), (.int .i64 (.ofNat (nat_lit 0))), (.int .i64 (.ofNat (nat_lit 0))), (.int .i64 (.ofNat (nat_lit 0))), (.int .i64 (.ofNat (nat_lit 0))), (.int .i64 (.ofNat (nat_lit 0))), (.int .i64 (.ofNat (nat_lit 0))), (.int .i64 (.ofNat (nat_lit 0))), (.str (sb [])), (.str (sb [])), (.str (sb [])), (.str (sb [])), (.int .i64 (.ofNat (nat_lit 0))), (.int .i64 (.ofNat (nat_lit 0))), (.int .i64 (.ofNat (nat_lit 0))), (.int .i64 (.ofNat (nat_lit 0))), (.int .i64 (.ofNat (nat_lit 0))), (.int .i64 (.ofNat (nat_lit 0))), (.int .i64 (.ofNat (nat_lit 0))), (.int .i64 (.ofNat (nat_lit 0))), (.bool false), (.int .i64 (.ofNat (nat_lit 0))), (.int .i64 (.ofNat (nat_lit 0))), (.int .i64 (.ofNat (nat_lit 0))), (.int .i64 (.ofNat (nat_lit 0))), (.int .i64 (.ofNat (nat_lit 0))), (.int .i64 (.ofNat (nat_lit 0))), (.int .i64 (.ofNat (nat_lit 0))), (.str (sb []))] [(3, 2), (5, 2)] [x7, x11]) fun x12 =>
  bndN (rAlloc [(.int .i64 (.ofNat (nat_lit 0))), (.int .i64 (.ofNat (nat_lit 0))), (.int .i64 (.ofNat (nat_lit 0))), (.int .i64 (.ofNat (nat_lit 0))), (.int .i64 (.ofNat (nat_lit 0))), (.int .i64 (.ofNat (nat_lit 0))), (.int .i64 (.ofNat (nat_lit 0))), (.int .i64 (.ofNat (nat_lit 0))), (.int .i64 (.ofNat (nat_lit 0))), (.int .i64 (.ofNat (nat_lit 0))), (.str (sb [])), (.str (sb [])), (.str (sb [])), (.str (sb [])), (.int .i64 (.ofNat (nat_lit 0))), (.int .i64 (.ofNat (nat_lit 0))), (.int .i64 (.ofNat (nat_lit 0))), (.int .i64 (.ofNat (nat_lit 0))), (.int .i64 (.ofNat (nat_lit 0))), (.int .i64 (.ofNat (nat_lit 0))), (.int .i64 (.ofNat (nat_lit 0))), (.int .i64 (.ofNat (nat_lit 0))), (.int .i64 (.ofNat (nat_lit 0))), (.int .i64 (.ofNat (nat_lit 0))), (.int .i64 (.ofNat (nat_lit 0))), (.int .i64 (.ofNat (nat_lit 0))), (.int .i64 (.ofNat (nat_lit 0))), (.int .i64 (.ofNat (nat_lit 0))), (.int .i64 (.ofNat (nat_lit 0))), (.int .i64 (.ofNat (nat_lit 0))), (.str (sb [])), (.str (sb [])), (.str (sb [])), (.str (sb [])), (.int .i64 (.ofNat (nat_lit 0))), (.int .i64 (.ofNat (nat_lit 0))), (.int .i64 (.ofNat (nat_lit 0))), (.int .i64 (.ofNat (nat_lit 0))), (.int .i64 (.ofNat (nat_lit 0))), (.int .i64 (.ofNat (nat_lit 0))), (.int .i64 (.ofNat (nat_lit 0))), (.int .i64 (.ofNat (nat_lit 0))), (.bool false), (.int .i64 (.ofNat (nat_lit 0))), (.int .i64 (.ofNat (nat_lit 0))), (.int .i64 (.ofNat (nat_lit 0))), (.int .i64 (.ofNat (nat_lit 0))), (.int .i64 (.ofNat (nat_lit 0))), (.int .i64 (.ofNat (nat_lit 0))), (.int .i64 (.ofNat (nat_lit 0))), (.str (sb []))] []) h fun x3 h =>
  bndE (rSt h 51 x3 x12) h fun _ h =>
  bndV (rNilc x0) fun x14 =>
  bndV (rFa 2 x14) fun x15 =>
  bndV (rLd h x15) fun x16 =>
  bndV (rEql x16 (.int .i64 (.ofNat (nat_lit 0)))) fun x19 =>
  (f208_2 x0 x2 x3 x16 x19 h)
noncomputable def f208 (vs : List V) (h : HT) : Option J := unc1 vs fun x0 =>
  (f208_3 x0 h)

/- (*concord/core.Core).begin -/
noncomputable def l128 : List (Nat × (List V → HT → Option J)) := [(206, f206), (207, f207), (208, f208)]
noncomputable def t128 : Fns := tab l128

noncomputable def f128 (vs : List V) (h : HT) : Option J := unc2 vs fun x0 x1 =>
  bndC (f206 [x0, x1] h) fun x6 h =>
  bndV (rNilc x1) fun x11 =>
  bndV (rFa 21 x11) fun x12 =>
  bndV (rLdN h 7 x12) fun x13 =>
  bndC (f208 [x1] h) fun x9 h =>
  chk1 (sameE (rLdN h 7 x12) x13) (bndC (f207 [x0, x9, x13] h) fun x14 h =>
  ret1 (.tuple []) h)

/- (*concord/core.Core).Propose -/
noncomputable def l50 : List (Nat × (List V → HT → Option J)) := [(48, f48), (101, f101), (125, f125), (126, f126), (127, f127), (128, f128)]
noncomputable def t50 : Fns := tab l50
noncomputable def f50_0 (x0 : V) (x3 : V) (x4 : V) (x6 : V) (x7 : V) (h : HT) : Option J := bndV (rLdN h 2 x6) fun x58 =>
  bndV (rLdN h 7 x3) fun x59 =>
  bndV (rLdN h 8 x7) fun x60 =>
  bndV (rBld [(.int .i64 (.ofNat (nat_lit 0))), (.int .i64 (.ofNat (nat_lit 0))), (.int .i64 (.ofNat (nat_lit 0))), (.int .i64 (.ofNat (nat_lit 0))), (.int .i64 (.ofNat (nat_lit 0))), (.int .i64 (.ofNat (nat_lit 0))), (.int .i64 (.ofNat (nat_lit 0))), (.int .i64 (.ofNat (nat_lit 0))), (.str (sb [])), (.str (sb [])), (.str (sb [])), (.str (sb [])), (.int .i64 (.ofNat (nat_lit 0))), (.int .i64 (.ofNat (nat_lit 0))), (.int .i64 (.ofNat (nat_lit 0))), (.int .i64 (.ofNat (nat_lit 0))), (.int .i64 (.ofNat (nat_lit 0))), (.int .i64 (.ofNat (nat_lit 0))), (.int .i64 (.ofNat (nat_lit 0))), (.int .i64 (.ofNat (nat_lit 0))), (.bool false)] [(0, 1), (5, 7), (12, 8), (20, 1)] [(.int .i64 (.ofNat (nat_lit 1))), x59, x60, (.bool true)]) fun x61 =>
  bndC (f127 [x0, x58, x61] h) fun x62 h =>
  bndV (rLdN h 2 x6) fun x64 =>
  bndV (rLdN h 7 x3) fun x65 =>
  bndV (rLdN h 8 x7) fun x66 =>
  bndV (rBld [(.int .i64 (.ofNat (nat_lit 0))), (.int .i64 (.ofNat (nat_lit 0))), (.int .i64 (.ofNat (nat_lit 0))), (.int .i64 (.ofNat (nat_lit 0))), (.int .i64 (.ofNat (nat_lit 0))), (.bool false), (.int .i64 (.ofNat (nat_lit 0))), (.int .i64 (.ofNat (nat_lit 0))), (.int .i64 (.ofNat (nat_lit 0))), (.str (sb [])), (.str (sb [])), (.str (sb [])), (.str (sb [])), (.int .i64 (.ofNat (nat_lit 0))), (.int .i64 (.ofNat (nat_lit 0))), (.int .i64 (.ofNat (nat_lit 0))), (.int .i64 (.ofNat (nat_lit 0))), (.int .i64 (.ofNat (nat_lit 0))), (.int .i64 (.ofNat (nat_lit 0))), (.int .i64 (.ofNat (nat_lit 0))), (.int .i64 (.ofNat (nat_lit 0))), (.int .i64 (.ofNat (nat_lit 0))), (.int .i64 (.ofNat (nat_lit 0))), (.int .i64 (.ofNat (nat_lit 0))), (.int .i64 (.ofNat (nat_lit 0))), (.int .i64 (.ofNat (nat_lit 0))), (.int .i64 (.ofNat (nat_lit 0))), (.int .i64 (.ofNat (nat_lit 0))), (.slice none 0 true 0), (.slice none 0 true 0), (.int .i64 (.ofNat (nat_lit 0))), (.int .i64 (.ofNat (nat_lit 0)))] [(0, 2), (2, 1), (5, 1), (6, 7), (13, 8)] [x64, (.int .i64 (.ofNat (nat_lit 0))), (.bool true), x65, x66]) fun x67 =>
  bndN (rBox x67) h fun x68 h =>
  bndC (f128 [x0, x68] h) fun x69 h =>
  bndV (rLdN h 2 x6) fun x70 =>
  bndE (rSt h 2 x4 x70) h fun _ h =>
  bndV (qLd h (some 2) [x4]) fun x900000 =>
  ret1 (.tuple [x900000, (.bool true)]) h
noncomputable def f50_1 (x0 : V) (x3 : V) (x4 : V) (x6 : V) (x48 : V) (h : HT) : Option J := bndV (rLd h x48) fun x49 =>
  bndV (rLdN h 2 x6) fun x50 =>
  bndV (rLdN h 7 x3) fun x51 =>
  bndN (rAlloc [(.int .i64 (.ofNat (nat_lit 0))), (.int .i64 (.ofNat (nat_lit 0))), (.int .i64 (.ofNat (nat_lit 0))), (.int .i64 (.ofNat (nat_lit 0))), (.int .i64 (.ofNat (nat_lit 0))), (.int .i64 (.ofNat (nat_lit 0))), (.int .i64 (.ofNat (nat_lit 0))), (.int .i64 (.ofNat (nat_lit 0)))] []) h fun x7 h =>
  bndC (f126 [x49, x50, x51] h) fun x52 h =>
  bndE (rSt h 8 x7 x52) h fun _ h =>
  bndV (rLdN h 8 x7) fun x53 =>
  bndC (f101 [x53] h) fun x54 h =>
  bndV (rNot x54) fun x55 =>
  tstv x55 (bndV (rBld [(.int .i64 (.ofNat (nat_lit 0))), (.int .i64 (.ofNat (nat_lit 0)))] [] []) fun x56 =>
  bndE (rSt h 2 x4 x56) h fun _ h =>
  bndV (qLd h (some 2) [x4]) fun x900000 =>
  ret1 (.tuple [x900000, (.bool false)]) h)
  ((f50_0 x0 x3 x4 x6 x7 h))
noncomputable def f50_2 (x0 : V) (x3 : V) (x4 : V) (x6 : V) (x36 : V) (h : HT) : Option J := bndC (gsel x36 false (retV (kMov [x0]) h) h) fun x38 h =>
  bndC (gsel x36 false (retV (rNilc x38) h) h) fun x39 h =>
  bndC (gsel x36 false (retV (rFa 4 x39) h) h) fun x40 h =>
  bndC (gsel x36 false (retV (rLd h x40) h) h) fun x41 h =>
  bndC (gsel x36 false (retV (rLenS x41) h) h) fun x42 h =>
  bndC (gsel x36 false (retV (rGeq x42 (.int .i64 (.ofNat (nat_lit 256)))) h) h) fun x43 h =>
  bndV (rPick x36 (.bool true) x43) fun x44 =>
  tstv x44 (bndV (rBld [(.int .i64 (.ofNat (nat_lit 0))), (.int .i64 (.ofNat (nat_lit 0)))] [] []) fun x45 =>
  bndE (rSt h 2 x4 x45) h fun _ h =>
  bndV (qLd h (some 2) [x4]) fun x900000 =>
  ret1 (.tuple [x900000, (.bool false)]) h)
  (bndV (rNilc x0) fun x47 =>
  bndV (rFa 3 x47) fun x48 =>
  (f50_1 x0 x3 x4 x6 x48 h))
noncomputable def f50_3 (x0 : V) (x3 : V) (x4 : V) (x6 : V) (x11 : V) (x21 : V) (h : HT) : Option J := bndV (rAdd x21 (.int .i64 (.ofNat (nat_lit 1)))) fun x22 =>
  bndV (rBld [(.int .i64 (.ofNat (nat_lit 0))), (.int .i64 (.ofNat (nat_lit 0)))] [(0, 1), (1, 1)] [x11, x22]) fun x23 =>
  bndE (rSt h 2 x6 x23) h fun _ h =>
  bndV (rLdN h 7 x3) fun x24 =>
  bndC (f48 [x24] h) fun x25 h =>
  bndV (rNot x25) fun x26 =>
  bndC (gsel x26 false (retV (rFa 0 x3) h) h) fun x28 h =>
  bndC (gsel x26 false (retV (rLd h x28) h) h) fun x29 h =>
  bndC (gsel x26 false (retV (rEql x29 (.int .i64 (.ofNat (nat_lit 0)))) h) h) fun x30 h =>
  bndV (rPick x26 (.bool true) x30) fun x31 =>
  bndC (gsel x31 false (retV (rFa 1 x6) h) h) fun x33 h =>
  bndC (gsel x31 false (retV (rLd h x33) h) h) fun x34 h =>
  bndC (gsel x31 false (retV (rGtr x34 (.int .i64 (.ofNat (nat_lit 1073741824)))) h) h) fun x35 h =>
  bndV (rPick x31 (.bool true) x35) fun x36 =>
  (f50_2 x0 x3 x4 x6 x36 h)
noncomputable def f50_4 (x0 : V) (x3 : V) (x4 : V) (h : HT) : Option J := bndV (rNilc x0) fun x9 =>
  bndV (rFa 1 x9) fun x10 =>
  bndV (rLd h x10) fun x11 =>
  bndV (rNilc x0) fun x13 =>
  bndV (rFa 2 x13) fun x14 =>
  bndV (rLd h x14) fun x15 =>
  bndV (rNilc x0) fun x18 =>
  bndV (rFa 1 x18) fun x19 =>
  bndV (rLd h x19) fun x20 =>
  bndN (rAlloc [(.int .i64 (.ofNat (nat_lit 0))), (.int .i64 (.ofNat (nat_lit 0)))] []) h fun x6 h =>
  bndC (f125 [x15] h) fun x16 h =>
  chk1 (sameE (rLd h x19) x20) (chk1 (sameE (rLd h x10) x11) (bndV (rIxA 7 1 x16 x20) fun x21 =>
  (f50_3 x0 x3 x4 x6 x11 x21 h)))
noncomputable def f50 (vs : List V) (h : HT) : Option J := unc2 vs fun x0 x1 =>
  bndN (rBox x1) h fun x3 h =>
  bndN (rAlloc [(.int .i64 (.ofNat (nat_lit 0))), (.int .i64 (.ofNat (nat_lit 0)))] []) h fun x4 h =>
  (f50_4 x0 x3 x4 h)

/- slices.Index[[]concord/api.Inst,concord/api.Inst] -/
noncomputable def l129 : List (Nat × (List V → HT → Option J)) := []
noncomputable def t129 : Fns := tab l129
noncomputable def f129_0 (x0 : V) (x3 : V) (x7 : V) (h : HT) : Option J := bndJ (loopF (fun rc vs h => unc1 vs fun x8 =>
  bndV (rLss x8 x7) fun x9 =>
  tstv x9 (bndV (rLdN h 2 x3) fun x11 =>
  bndV (rIaS 2 x0 x8) fun x14 =>
  bndV (rLdN h 2 x14) fun x15 =>
  bndV (kEqF false [.i, .i] [x11, x15]) fun x16 =>
  tstv x16 (some ⟨1, [x8], h⟩)
  (bndV (rAdd x8 (.int .i64 (.ofNat (nat_lit 1)))) fun x18 =>
  rc [x18] h))
  (some ⟨0, [], h⟩)) 1000000 [(.int .i64 (.ofNat (nat_lit 0)))] h)
  fun j vs h => nsw j (ret1 (.int .i64 (.negSucc (nat_lit 0))) h)
  fun j => unc1 vs fun x4 =>
  ret1 x4 h
noncomputable def f129 (vs : List V) (h : HT) : Option J := unc2 vs fun x0 x1 =>
  bndN (rBox x1) h fun x3 h =>
  bndV (rLenS x0) fun x7 =>
  (f129_0 x0 x3 x7 h)

/- slices.Contains[[]concord/api.Inst,concord/api.Inst] -/
noncomputable def l51 : List (Nat × (List V → HT → Option J)) := [(129, f129)]
noncomputable def t51 : Fns := tab l51

noncomputable def f51 (vs : List V) (h : HT) : Option J := unc2 vs fun x0 x1 =>
  bndN (rBox x1) h fun x3 h =>
  bndV (rLdN h 2 x3) fun x6 =>
  bndC (f129 [x0, x6] h) fun x7 h =>
  bndV (rGeq x7 (.int .i64 (.ofNat (nat_lit 0)))) fun x8 =>
  ret1 x8 h

/- (*concord/node.Node).Ask -/
noncomputable def l12 : List (Nat × (List V → HT → Option J)) := [(45, f45), (48, f48), (49, f49), (50, f50), (51, f51)]
noncomputable def t12 : Fns := tab l12
noncomputable def f12_0 (x0 : V) (x3 : V) (x49 : V) (h : HT) : Option J := tstv x49 (bndV (rNilc x0) fun x52 =>
  bndV (rFa 4 x52) fun x53 =>
  bndV (rLd h x53) fun x54 =>
  bndV (rLdN h 7 x3) fun x55 =>
  bndN (rAlloc [(.int .i64 (.ofNat (nat_lit 0))), (.int .i64 (.ofNat (nat_lit 0)))] []) h fun x7 h =>
  bndC (f50 [x54, x55] h) fun x56 h =>
  bndV (rExt 0 x56) fun x57 =>
  bndV (rExt 1 x56) fun x58 =>
  bndE (rSt h 2 x7 x57) h fun _ h =>
  bndV (rNot x58) fun x60 =>
  tstv x60 (some ⟨0, [(.int .i64 (.ofNat (nat_lit 7)))], h⟩)
  (some ⟨1, [], h⟩))
  (some ⟨1, [], h⟩)
noncomputable def f12_1 (x0 : V) (x6 : V) (x67 : V) (h : HT) : Option J := bndJ (tstv x67 (bndV (rNilc x0) fun x70 =>
  bndV (rFa 71 x70) fun x71 =>
  bndV (rLd h x71) fun x72 =>
  bndV (rLdN h 2 x6) fun x73 =>
  bndN (rBsl 2 1 [(.int .i64 (.ofNat (nat_lit 0))), (.int .i64 (.ofNat (nat_lit 0)))] [(0, 2)] [x73]) h fun x74 h =>
  bndE (dApp h 2 16 [x72, x74]) h fun x75 h =>
  bndV (rNilc x0) fun x76 =>
  bndV (rFa 71 x76) fun x77 =>
  bndE (rSt h 1 x77 x75) h fun _ h =>
  some ⟨0, [], h⟩)
  (some ⟨0, [], h⟩))
  fun j vs h => bndC (f45 [x0] h) fun x79 h =>
  ret1 (.int .i64 (.ofNat (nat_lit 0))) h
noncomputable def f12_2 (x0 : V) (x3 : V) (x6 : V) (x43 : V) (x45 : V) (x46 : V) (h : HT) : Option J := bndC (gsel x43 true (f49 [x45, x46] h) h) fun x47 h =>
  bndC (gsel x43 true (retV (rNot x47) h) h) fun x48 h =>
  bndV (rPick x43 x48 (.bool false)) fun x49 =>
  bndJ ((f12_0 x0 x3 x49 h))
  fun j vs h => nsw j (unc1 vs fun x4 =>
  ret1 x4 h)
  fun j => bndV (rNilc x0) fun x62 =>
  bndV (rFa 71 x62) fun x63 =>
  bndV (rLd h x63) fun x64 =>
  bndV (rLdN h 2 x6) fun x65 =>
  bndC (f51 [x64, x65] h) fun x66 h =>
  bndV (rNot x66) fun x67 =>
  (f12_1 x0 x6 x67 h)
noncomputable def f12_3 (x0 : V) (x3 : V) (x30 : V) (x34 : V) (h : HT) : Option J := tstv x34 (ret1 (.int .i64 (.ofNat (nat_lit 9))) h)
  (bndV (rFa 1 x3) fun x35 =>
  bndV (rLd h x35) fun x36 =>
  bndV (rFa 2 x3) fun x37 =>
  bndV (rLd h x37) fun x38 =>
  bndV (rBld [(.int .i64 (.ofNat (nat_lit 0))), (.int .i64 (.ofNat (nat_lit 0)))] [(0, 1), (1, 1)] [x36, x38]) fun x39 =>
  bndN (rAlloc [(.int .i64 (.ofNat (nat_lit 0))), (.int .i64 (.ofNat (nat_lit 0)))] []) h fun x6 h =>
  bndE (rSt h 2 x6 x39) h fun _ h =>
  bndV (rFa 2 x3) fun x40 =>
  bndV (rLd h x40) fun x41 =>
  bndV (rGtr x41 x30) fun x43 =>
  bndC (gsel x43 true (retV (kMov [x0]) h) h) fun x45 h =>
  bndC (gsel x43 true (retV (rLdN h 2 x6) h) h) fun x46 h =>
  (f12_2 x0 x3 x6 x43 x45 x46 h))
noncomputable def f12_4 (x0 : V) (x3 : V) (x20 : V) (h : HT) : Option J := tstv x20 (ret1 (.int .i64 (.ofNat (nat_lit 1))) h)
  (bndV (rFa 1 x3) fun x22 =>
  bndV (rLd h x22) fun x23 =>
  bndV (rSub x23 (.int .i64 (.ofNat (nat_lit 1)))) fun x24 =>
  bndV (rNilc x0) fun x25 =>
  bndV (rFa 6 x25) fun x26 =>
  bndV (rFa 1 x26) fun x27 =>
  bndV (rIaA 8 6 x27 x24) fun x28 =>
  bndV (rFa 0 x28) fun x29 =>
  bndV (rLd h x29) fun x30 =>
  bndV (rFa 2 x3) fun x31 =>
  bndV (rLd h x31) fun x32 =>
  bndV (rLss x32 x30) fun x34 =>
  (f12_3 x0 x3 x30 x34 h))
noncomputable def f12 (vs : List V) (h : HT) : Option J := unc2 vs fun x0 x1 =>
  bndN (rBox x1) h fun x3 h =>
  bndV (rNilc x0) fun x10 =>
  bndV (rFa 74 x10) fun x11 =>
  bndV (rLd h x11) fun x12 =>
  tstv x12 (ret1 (.int .i64 (.ofNat (nat_lit 10))) h)
  (bndV (rLdN h 7 x3) fun x13 =>
  bndC (f48 [x13] h) fun x14 h =>
  bndV (rNot x14) fun x15 =>
  bndC (gsel x15 false (retV (rFa 0 x3) h) h) fun x17 h =>
  bndC (gsel x15 false (retV (rLd h x17) h) h) fun x18 h =>
  bndC (gsel x15 false (retV (rEql x18 (.int .i64 (.ofNat (nat_lit 0)))) h) h) fun x19 h =>
  bndV (rPick x15 (.bool true) x19) fun x20 =>
  (f12_4 x0 x3 x20 h))

/- (*concord/cluster.Cluster).Node -/
noncomputable def l22 : List (Nat × (List V → HT → Option J)) := []
noncomputable def t22 : Fns := tab l22
noncomputable def f22_0 (x0 : V) (x1 : V) (x6 : V) (h : HT) : Option J := bndC (gsel x6 false (retV (kMov [x1]) h) h) fun x8 h =>
  bndC (gsel x6 false (retV (kMov [x0]) h) h) fun x9 h =>
  bndC (gsel x6 false (retV (rNilc x9) h) h) fun x10 h =>
  bndC (gsel x6 false (retV (rFa 0 x10) h) h) fun x11 h =>
  bndC (gsel x6 false (retV (rLd h x11) h) h) fun x12 h =>
  bndC (gsel x6 false (retV (rGeq x8 x12) h) h) fun x13 h =>
  bndV (rPick x6 (.bool true) x13) fun x14 =>
  tstv x14 (ret1 (.ptr none) h)
  (bndV (rNilc x0) fun x16 =>
  bndV (rFa 2 x16) fun x17 =>
  bndV (rLd h x17) fun x18 =>
  bndV (rIaS 1 x18 x1) fun x20 =>
  bndV (rLd h x20) fun x21 =>
  ret1 x21 h)
noncomputable def f22 (vs : List V) (h : HT) : Option J := unc2 vs fun x0 x1 =>
  bndV (rLss x1 (.int .i64 (.ofNat (nat_lit 0)))) fun x6 =>
  (f22_0 x0 x1 x6 h)

/- (*concord/cluster.Cluster).comes -/
noncomputable def l147 : List (Nat × (List V → HT → Option J)) := [(12, f12), (22, f22), (60, f60)]
noncomputable def t147 : Fns := tab l147

noncomputable def f147 (vs : List V) (h : HT) : Option J := unc3 vs fun x0 x1 x2 =>
  bndN (rBox x1) h fun x4 h =>
  bndC (f22 [x0, x2] h) fun x9 h =>
  bndV (kEqN true [x9, (.ptr none)]) fun x11 =>
  tstv x11 (bndV (rLdN h 7 x4) fun x13 =>
  bndC (f12 [x9, x13] h) fun x14 h =>
  bndC (f60 [x0, x2] h) fun x17 h =>
  ret1 (.tuple []) h)
  (ret1 (.tuple []) h)

/- (*concord/cluster.Cluster).call -/
noncomputable def l61 : List (Nat × (List V → HT → Option J)) := [(144, f144), (146, f146), (147, f147)]
noncomputable def t61 : Fns := tab l61
noncomputable def f61_0 (x0 : V) (x3 : V) (x5 : V) (x56 : V) (h : HT) : Option J := bndV (rLd h x56) fun x57 =>
  bndV (rFa 3 x3) fun x58 =>
  bndV (rLd h x58) fun x59 =>
  bndV (rLdN h 7 x5) fun x60 =>
  bndV (rBld [(.int .i64 (.ofNat (nat_lit 0))), (.int .i64 (.ofNat (nat_lit 0))), (.int .i64 (.ofNat (nat_lit 0))), (.int .i64 (.ofNat (nat_lit 0))), (.int .i64 (.ofNat (nat_lit 0))), (.str (sb [])), (.str (sb [])), (.str (sb [])), (.str (sb [])), (.int .i64 (.ofNat (nat_lit 0))), (.bool false), (.str (sb [])), (.int .i64 (.ofNat (nat_lit 0))), (.slice none 0 true 0)] [(0, 1), (1, 1), (2, 7)] [(.int .i64 (.ofNat (nat_lit 1))), x59, x60]) fun x61 =>
  bndN (rBsl 14 1 [(.int .i64 (.ofNat (nat_lit 0))), (.int .i64 (.ofNat (nat_lit 0))), (.int .i64 (.ofNat (nat_lit 0))), (.int .i64 (.ofNat (nat_lit 0))), (.int .i64 (.ofNat (nat_lit 0))), (.str (sb [])), (.str (sb [])), (.str (sb [])), (.str (sb [])), (.int .i64 (.ofNat (nat_lit 0))), (.bool false), (.str (sb [])), (.int .i64 (.ofNat (nat_lit 0))), (.slice none 0 true 0)] [(0, 14)] [x61]) h fun x62 h =>
  bndE (dApp h 14 168 [x57, x62]) h fun x63 h =>
  bndV (rNilc x0) fun x64 =>
  bndV (rFa 6 x64) fun x65 =>
  bndE (rSt h 1 x65 x63) h fun _ h =>
  bndV (rLdN h 7 x5) fun x67 =>
  bndV (rFa 1 x3) fun x68 =>
  bndV (rLd h x68) fun x69 =>
  bndC (f147 [x0, x67, x69] h) fun x70 h =>
  ret1 (.bool true) h
noncomputable def f61_1 (x0 : V) (x3 : V) (x5 : V) (x41 : V) (h : HT) : Option J := bndV (rNot x41) fun x43 =>
  tstv x43 (ret1 (.bool false) h)
  (bndV (rNilc x0) fun x45 =>
  bndV (rFa 4 x45) fun x46 =>
  bndV (rLd h x46) fun x47 =>
  bndV (rFa 3 x3) fun x48 =>
  bndV (rLd h x48) fun x49 =>
  bndV (rSub x49 (.int .i64 (.ofNat (nat_lit 1)))) fun x50 =>
  bndV (rLdN h 7 x5) fun x51 =>
  bndV (rIaS 7 x47 x50) fun x52 =>
  bndE (rSt h 7 x52 x51) h fun _ h =>
  bndV (rNilc x0) fun x55 =>
  bndV (rFa 6 x55) fun x56 =>
  (f61_0 x0 x3 x5 x56 h))
noncomputable def f61_2 (x0 : V) (x3 : V) (x29 : V) (h : HT) : Option J := bndV (rFa 3 x3) fun x30 =>
  bndV (rLd h x30) fun x31 =>
  bndV (rSub x31 (.int .i64 (.ofNat (nat_lit 1)))) fun x32 =>
  bndV (rIaS 1 x29 x32) fun x33 =>
  bndV (rLd h x33) fun x34 =>
  bndV (rFa 4 x3) fun x35 =>
  bndV (rLdN h 7 x35) fun x36 =>
  bndV (rFa 1 x3) fun x37 =>
  bndV (rLd h x37) fun x38 =>
  bndN (rAlloc [(.int .i64 (.ofNat (nat_lit 0))), (.int .i64 (.ofNat (nat_lit 0))), (.int .i64 (.ofNat (nat_lit 0))), (.str (sb [])), (.str (sb [])), (.str (sb [])), (.str (sb []))] []) h fun x5 h =>
  bndC (f146 [x34, x36, x38] h) fun x39 h =>
  bndV (rExt 0 x39) fun x40 =>
  bndV (rExt 1 x39) fun x41 =>
  bndE (rSt h 7 x5 x40) h fun _ h =>
  (f61_1 x0 x3 x5 x41 h)
noncomputable def f61_3 (x0 : V) (x3 : V) (x10 : V) (x14 : V) (h : HT) : Option J := bndV (rPick x10 (.bool true) x14) fun x15 =>
  bndC (gsel x15 false (retV (rFa 1 x3) h) h) fun x17 h =>
  bndC (gsel x15 false (retV (rLd h x17) h) h) fun x18 h =>
  bndC (gsel x15 false (retV (kMov [x0]) h) h) fun x19 h =>
  bndC (gsel x15 false (retV (rNilc x19) h) h) fun x20 h =>
  bndC (gsel x15 false (retV (rFa 0 x20) h) h) fun x21 h =>
  bndC (gsel x15 false (retV (rLd h x21) h) h) fun x22 h =>
  bndC (gsel x15 false (retV (rGeq x18 x22) h) h) fun x23 h =>
  bndV (rPick x15 (.bool true) x23) fun x24 =>
  tstv x24 (ret1 (.bool false) h)
  (bndV (rNilc x0) fun x27 =>
  bndV (rFa 3 x27) fun x28 =>
  bndV (rLd h x28) fun x29 =>
  (f61_2 x0 x3 x29 h))
noncomputable def f61 (vs : List V) (h : HT) : Option J := unc2 vs fun x0 x1 =>
  bndN (rBox x1) h fun x3 h =>
  bndV (rFa 3 x3) fun x7 =>
  bndV (rLd h x7) fun x8 =>
  bndC (f144 [x8] h) fun x9 h =>
  bndV (rNot x9) fun x10 =>
  bndC (gsel x10 false (retV (rFa 1 x3) h) h) fun x12 h =>
  bndC (gsel x10 false (retV (rLd h x12) h) h) fun x13 h =>
  bndC (gsel x10 false (retV (rLss x13 (.int .i64 (.ofNat (nat_lit 0)))) h) h) fun x14 h =>
  (f61_3 x0 x3 x10 x14 h)

/- concord/letter.named -/
noncomputable def l130 : List (Nat × (List V → HT → Option J)) := []
noncomputable def t130 : Fns := tab l130
noncomputable def f130_0 (x0 : V) (x2 : V) (x23 : V) (h : HT) : Option J := tstv x23 (bndV (rBld [(.bool false), (.bool false), (.bool false), (.bool false), (.bool false), (.bool false), (.bool false)] [(5, 1)] [(.bool true)]) fun x26 =>
  bndE (rSt h 7 x2 x26) h fun _ h =>
  bndV (qLd h (some 7) [x2]) fun x900000 =>
  ret1 (.tuple [x900000, (.bool true)]) h)
  (bndV (rEql x0 (.int .i64 (.ofNat (nat_lit 10)))) fun x28 =>
  tstv x28 (bndV (rBld [(.bool false), (.bool false), (.bool false), (.bool false), (.bool false), (.bool false), (.bool false)] [(6, 1)] [(.bool true)]) fun x29 =>
  bndE (rSt h 7 x2 x29) h fun _ h =>
  bndV (qLd h (some 7) [x2]) fun x900000 =>
  ret1 (.tuple [x900000, (.bool true)]) h)
  (bndV (rBld [(.bool false), (.bool false), (.bool false), (.bool false), (.bool false), (.bool false), (.bool false)] [] []) fun x30 =>
  bndE (rSt h 7 x2 x30) h fun _ h =>
  bndV (qLd h (some 7) [x2]) fun x900000 =>
  ret1 (.tuple [x900000, (.bool false)]) h))
noncomputable def f130_1 (x0 : V) (x2 : V) (x18 : V) (h : HT) : Option J := tstv x18 (bndV (rBld [(.bool false), (.bool false), (.bool false), (.bool false), (.bool false), (.bool false), (.bool false)] [(0, 1), (2, 1), (3, 1)] [(.bool true), (.bool true), (.bool true)]) fun x19 =>
  bndE (rSt h 7 x2 x19) h fun _ h =>
  bndV (qLd h (some 7) [x2]) fun x900000 =>
  ret1 (.tuple [x900000, (.bool true)]) h)
  (bndV (rEql x0 (.int .i64 (.ofNat (nat_lit 7)))) fun x21 =>
  tstv x21 (bndV (rBld [(.bool false), (.bool false), (.bool false), (.bool false), (.bool false), (.bool false), (.bool false)] [(0, 1), (1, 1), (4, 1)] [(.bool true), (.bool true), (.bool true)]) fun x22 =>
  bndE (rSt h 7 x2 x22) h fun _ h =>
  bndV (qLd h (some 7) [x2]) fun x900000 =>
  ret1 (.tuple [x900000, (.bool true)]) h)
  (bndV (rEql x0 (.int .i64 (.ofNat (nat_lit 9)))) fun x24 =>
  bndJ (tstv x24 (some ⟨0, [x24], h⟩)
  (bndV (rEql x0 (.int .i64 (.ofNat (nat_lit 11)))) fun x25 =>
  some ⟨0, [x25], h⟩))
  fun j vs h => unc1 vs fun x23 =>
  (f130_0 x0 x2 x23 h)))
noncomputable def f130_2 (x0 : V) (x2 : V) (x13 : V) (h : HT) : Option J := bndJ (tstv x13 (some ⟨0, [x13], h⟩)
  (bndV (rEql x0 (.int .i64 (.ofNat (nat_lit 6)))) fun x14 =>
  bndJ (tstv x14 (some ⟨0, [x14], h⟩)
  (bndV (rEql x0 (.int .i64 (.ofNat (nat_lit 8)))) fun x15 =>
  some ⟨0, [x15], h⟩))
  fun j vs h => unc1 vs fun x12 =>
  some ⟨0, [x12], h⟩))
  fun j vs h => unc1 vs fun x12 =>
  tstv x12 (bndV (rBld [(.bool false), (.bool false), (.bool false), (.bool false), (.bool false), (.bool false), (.bool false)] [(0, 1), (1, 1)] [(.bool true), (.bool true)]) fun x16 =>
  bndE (rSt h 7 x2 x16) h fun _ h =>
  bndV (qLd h (some 7) [x2]) fun x900000 =>
  ret1 (.tuple [x900000, (.bool true)]) h)
  (bndV (rEql x0 (.int .i64 (.ofNat (nat_lit 5)))) fun x18 =>
  (f130_1 x0 x2 x18 h))
noncomputable def f130_3 (x0 : V) (x2 : V) (x6 : V) (h : HT) : Option J := bndJ (tstv x6 (some ⟨0, [x6], h⟩)
  (bndV (rEql x0 (.int .i64 (.ofNat (nat_lit 3)))) fun x7 =>
  some ⟨0, [x7], h⟩))
  fun j vs h => unc1 vs fun x5 =>
  tstv x5 (bndV (rBld [(.bool false), (.bool false), (.bool false), (.bool false), (.bool false), (.bool false), (.bool false)] [(0, 1), (1, 1), (2, 1), (3, 1)] [(.bool true), (.bool true), (.bool true), (.bool true)]) fun x8 =>
  bndE (rSt h 7 x2 x8) h fun _ h =>
  bndV (qLd h (some 7) [x2]) fun x900000 =>
  ret1 (.tuple [x900000, (.bool true)]) h)
  (bndV (rEql x0 (.int .i64 (.ofNat (nat_lit 2)))) fun x10 =>
  tstv x10 (bndV (rBld [(.bool false), (.bool false), (.bool false), (.bool false), (.bool false), (.bool false), (.bool false)] [(0, 1), (1, 1), (3, 1)] [(.bool true), (.bool true), (.bool true)]) fun x11 =>
  bndE (rSt h 7 x2 x11) h fun _ h =>
  bndV (qLd h (some 7) [x2]) fun x900000 =>
  ret1 (.tuple [x900000, (.bool true)]) h)
  (bndV (rEql x0 (.int .i64 (.ofNat (nat_lit 4)))) fun x13 =>
  (f130_2 x0 x2 x13 h)))
noncomputable def f130 (vs : List V) (h : HT) : Option J := unc1 vs fun x0 =>
  bndN (rAlloc [(.bool false), (.bool false), (.bool false), (.bool false), (.bool false), (.bool false), (.bool false)] []) h fun x2 h =>
  bndV (rEql x0 (.int .i64 (.ofNat (nat_lit 1)))) fun x6 =>
  (f130_3 x0 x2 x6 h)

/- concord/letter.place -/
noncomputable def l131 : List (Nat × (List V → HT → Option J)) := []
noncomputable def t131 : Fns := tab l131

noncomputable def f131 (vs : List V) (h : HT) : Option J := unc1 vs fun x0 =>
  bndV (rGeq x0 (.int .i64 (.ofNat (nat_lit 0)))) fun x4 =>
  bndC (gsel x4 true (retV (kMov [x0]) h) h) fun x6 h =>
  bndC (gsel x4 true (retV (rLss x6 (.int .i64 (.ofNat (nat_lit 7)))) h) h) fun x7 h =>
  bndV (rPick x4 x7 (.bool false)) fun x8 =>
  ret1 x8 h

/- concord/letter.bare -/
noncomputable def l132 : List (Nat × (List V → HT → Option J)) := []
noncomputable def t132 : Fns := tab l132
noncomputable def f132_0 (x2 : V) (x3 : V) (x4 : V) (x5 : V) (x39 : V) (h : HT) : Option J := bndJ (tstv x39 (bndV (rFa 43 x2) fun x40 =>
  bndV (rLdN h 7 x40) fun x41 =>
  bndV (rFa 43 x5) fun x42 =>
  bndE (rSt h 7 x42 x41) h fun _ h =>
  some ⟨0, [], h⟩)
  (some ⟨0, [], h⟩))
  fun j vs h => bndV (rFa 6 x3) fun x43 =>
  bndV (rLd h x43) fun x44 =>
  bndJ (tstv x44 (bndV (rFa 50 x2) fun x45 =>
  bndV (rLd h x45) fun x46 =>
  bndV (rFa 50 x5) fun x47 =>
  bndE (rSt h 1 x47 x46) h fun _ h =>
  some ⟨0, [], h⟩)
  (some ⟨0, [], h⟩))
  fun j vs h => bndV (rLdN h 51 x5) fun x48 =>
  bndE (rSt h 51 x4 x48) h fun _ h =>
  bndV (qLd h (some 51) [x4]) fun x900000 =>
  ret1 x900000 h
noncomputable def f132_1 (x2 : V) (x3 : V) (x4 : V) (x5 : V) (x29 : V) (h : HT) : Option J := bndJ (tstv x29 (bndV (rFa 14 x2) fun x30 =>
  bndV (rLdN h 8 x30) fun x31 =>
  bndV (rFa 14 x5) fun x32 =>
  bndE (rSt h 8 x32 x31) h fun _ h =>
  some ⟨0, [], h⟩)
  (some ⟨0, [], h⟩))
  fun j vs h => bndV (rFa 4 x3) fun x33 =>
  bndV (rLd h x33) fun x34 =>
  bndJ (tstv x34 (bndV (rFa 22 x2) fun x35 =>
  bndV (rLdN h 21 x35) fun x36 =>
  bndV (rFa 22 x5) fun x37 =>
  bndE (rSt h 21 x37 x36) h fun _ h =>
  some ⟨0, [], h⟩)
  (some ⟨0, [], h⟩))
  fun j vs h => bndV (rFa 5 x3) fun x38 =>
  bndV (rLd h x38) fun x39 =>
  (f132_0 x2 x3 x4 x5 x39 h)
noncomputable def f132_2 (x2 : V) (x3 : V) (x4 : V) (x5 : V) (x19 : V) (h : HT) : Option J := bndJ (tstv x19 (bndV (rFa 5 x2) fun x20 =>
  bndV (rLdN h 2 x20) fun x21 =>
  bndV (rFa 5 x5) fun x22 =>
  bndE (rSt h 2 x22 x21) h fun _ h =>
  some ⟨0, [], h⟩)
  (some ⟨0, [], h⟩))
  fun j vs h => bndV (rFa 2 x3) fun x23 =>
  bndV (rLd h x23) fun x24 =>
  bndJ (tstv x24 (bndV (rFa 7 x2) fun x25 =>
  bndV (rLdN h 7 x25) fun x26 =>
  bndV (rFa 7 x5) fun x27 =>
  bndE (rSt h 7 x27 x26) h fun _ h =>
  some ⟨0, [], h⟩)
  (some ⟨0, [], h⟩))
  fun j vs h => bndV (rFa 3 x3) fun x28 =>
  bndV (rLd h x28) fun x29 =>
  (f132_1 x2 x3 x4 x5 x29 h)
noncomputable def f132_3 (x2 : V) (x3 : V) (x4 : V) (x12 : V) (h : HT) : Option J := bndN (rAlloc [(.int .i64 (.ofNat (nat_lit 0))), (.int .i64 (.ofNat (nat_lit 0))), (.int .i64 (.ofNat (nat_lit 0))), (.int .i64 (.ofNat (nat_lit 0))), (.int .i64 (.ofNat (nat_lit 0))), (.int .i64 (.ofNat (nat_lit 0))), (.int .i64 (.ofNat (nat_lit 0))), (.int .i64 (.ofNat (nat_lit 0))), (.int .i64 (.ofNat (nat_lit 0))), (.int .i64 (.ofNat (nat_lit 0))), (.str (sb [])), (.str (sb [])), (.str (sb [])), (.str (sb [])), (.int .i64 (.ofNat (nat_lit 0))), (.int .i64 (.ofNat (nat_lit 0))), (.int .i64 (.ofNat (nat_lit 0))), (.int .i64 (.ofNat (nat_lit 0))), (.int .i64 (.ofNat (nat_lit 0))), (.int .i64 (.ofNat (nat_lit 0))), (.int .i64 (.ofNat (nat_lit 0))), (.int .i64 (.ofNat (nat_lit 0))), (.int .i64 (.ofNat (nat_lit 0))), (.int .i64 (.ofNat (nat_lit 0))), (.int .i64 (.ofNat (nat_lit 0))), (.int .i64 (.ofNat (nat_lit 0))), (.int .i64 (.ofNat (nat_lit 0))), (.int .i64 (.ofNat (nat_lit 0))), (.int .i64 (.ofNat (nat_lit 0))), (.int .i64 (.ofNat (nat_lit 0))), (.str (sb [])), (.str (sb [])), (.str (sb [])), (.str (sb [])), (.int .i64 (.ofNat (nat_lit 0))), (.int .i64 (.ofNat (nat_lit 0))), (.int .i64 (.ofNat (nat_lit 0))), (.int .i64 (.ofNat (nat_lit 0))), (.int .i64 (.ofNat (nat_lit 0))), (.int .i64 (.ofNat (nat_lit 0))), (.int .i64 (.ofNat (nat_lit 0))), (.int .i64 (.ofNat (nat_lit 0))), (.bool false), (.int .i64 (.ofNat (nat_lit 0))), (.int .i64 (.ofNat (nat_lit 0))), (.int .i64 (.ofNat (nat_lit 0))), (.int .i64 (.ofNat (nat_lit 0))), (.int .i64 (.ofNat (nat_lit 0))), (.int .i64 (.ofNat (nat_lit 0))), (.int .i64 (.ofNat (nat_lit 0))), (.str (sb []))] []) h fun x5 h =>
  bndE (rSt h 51 x5 x12) h fun _ h =>
  bndV (rFa 0 x3) fun x13 =>
  bndV (rLd h x13) fun x14 =>
  bndJ (tstv x14 (bndV (rFa 3 x2) fun x15 =>
  bndV (rLdN h 2 x15) fun x16 =>
  bndV (rFa 3 x5) fun x17 =>
  bndE (rSt h 2 x17 x16) h fun _ h =>
  some ⟨0, [], h⟩)
  (some ⟨0, [], h⟩))
  fun j vs h => bndV (rFa 1 x3) fun x18 =>
  bndV (rLd h x18) fun x19 =>
  (f132_2 x2 x3 x4 x5 x19 h)
noncomputable def f132 (vs : List V) (h : HT) : Option J := unc2 vs fun x0 x1 =>
  bndN (rBox x0) h fun x2 h =>
  bndN (rBox x1) h fun x3 h =>
  bndN (rAlloc [(.int .i64 (.ofNat (nat_lit 0))), (.int .i64 (.ofNat (nat_lit 0))), (.int .i64 (.ofNat (nat_lit 0))), (.int .i64 (.ofNat (nat_lit 0))), (.int .i64 (.ofNat (nat_lit 0))), (.int .i64 (.ofNat (nat_lit 0))), (.int .i64 (.ofNat (nat_lit 0))), (.int .i64 (.ofNat (nat_lit 0))), (.int .i64 (.ofNat (nat_lit 0))), (.int .i64 (.ofNat (nat_lit 0))), (.str (sb [])), (.str (sb [])), (.str (sb [])), (.str (sb [])), (.int .i64 (.ofNat (nat_lit 0))), (.int .i64 (.ofNat (nat_lit 0))), (.int .i64 (.ofNat (nat_lit 0))), (.int .i64 (.ofNat (nat_lit 0))), (.int .i64 (.ofNat (nat_lit 0))), (.int .i64 (.ofNat (nat_lit 0))), (.int .i64 (.ofNat (nat_lit 0))), (.int .i64 (.ofNat (nat_lit 0))), (.int .i64 (.ofNat (nat_lit 0))), (.int .i64 (.ofNat (nat_lit 0))), (.int .i64 (.ofNat (nat_lit 0))), (.int .i64 (.ofNat (nat_lit 0))), (.int .i64 (.ofNat (nat_lit 0))), (.int .i64 (.ofNat (nat_lit 0))), (.int .i64 (.ofNat (nat_lit 0))), (.int .i64 (.ofNat (nat_lit 0))), (.str (sb [])), (.str (sb [])), (.str (sb [])), (.str (sb [])), (.int .i64 (.ofNat (nat_lit 0))), (.int .i64 (.ofNat (nat_lit 0))), (.int .i64 (.ofNat (nat_lit 0))), (.int .i64 (.ofNat (nat_lit 0))), (.int .i64 (.ofNat (nat_lit 0))), (.int .i64 (.ofNat (nat_lit 0))), (.int .i64 (.ofNat (nat_lit 0))), (.int .i64 (.ofNat (nat_lit 0))), (.bool false), (.int .i64 (.ofNat (nat_lit 0))), (.int .i64 (.ofNat (nat_lit 0))), (.int .i64 (.ofNat (nat_lit 0))), (.int .i64 (.ofNat (nat_lit 0))), (.int .i64 (.ofNat (nat_lit 0))), (.int .i64 (.ofNat (nat_lit 0))), (.int .i64 (.ofNat (nat_lit 0))), (.str (sb []))] []) h fun x4 h =>
  bndV (rFa 0 x2) fun x6 =>
  bndV (rLd h x6) fun x7 =>
  bndV (rFa 1 x2) fun x8 =>
  bndV (rLd h x8) fun x9 =>
  bndV (rFa 2 x2) fun x10 =>
  bndV (rLd h x10) fun x11 =>
  bndV (rBld [(.int .i64 (.ofNat (nat_lit 0))), (.int .i64 (.ofNat (nat_lit 0))), (.int .i64 (.ofNat (nat_lit 0))), (.int .i64 (.ofNat (nat_lit 0))), (.int .i64 (.ofNat (nat_lit 0))), (.int .i64 (.ofNat (nat_lit 0))), (.int .i64 (.ofNat (nat_lit 0))), (.int .i64 (.ofNat (nat_lit 0))), (.int .i64 (.ofNat (nat_lit 0))), (.int .i64 (.ofNat (nat_lit 0))), (.str (sb [])), (.str (sb [])), (.str (sb [])), (.str (sb [])), (.int .i64 (.ofNat (nat_lit 0))), (.int .i64 (.ofNat (nat_lit 0))), (.int .i64 (.ofNat (nat_lit 0))), (.int .i64 (.ofNat (nat_lit 0))), (.int .i64 (.ofNat (nat_lit 0))), (.int .i64 (.ofNat (nat_lit 0))), (.int .i64 (.ofNat (nat_lit 0))), (.int .i64 (.ofNat (nat_lit 0))), (.int .i64 (.ofNat (nat_lit 0))), (.int .i64 (.ofNat (nat_lit 0))), (.int .i64 (.ofNat (nat_lit 0))), (.int .i64 (.ofNat (nat_lit 0))), (.int .i64 (.ofNat (nat_lit 0))), (.int .i64 (.ofNat (nat_lit 0))), (.int .i64 (.ofNat (nat_lit 0))), (.int .i64 (.ofNat (nat_lit 0))), (.str (sb [])), (.str (sb [])), (.str (sb [])), (.str (sb [])), (.int .i64 (.ofNat (nat_lit 0))), (.int .i64 (.ofNat (nat_lit 0))), (.int .i64 (.ofNat (nat_lit 0))), (.int .i64 (.ofNat (nat_lit 0))), (.int .i64 (.ofNat (nat_lit 0))), (.int .i64 (.ofNat (nat_lit 0))), (.int .i64 (.ofNat (nat_lit 0))), (.int .i64 (.ofNat (nat_lit 0))), (.bool false), (.int .i64 (.ofNat (nat_lit 0))), (.int .i64 (.ofNat (nat_lit 0))), (.int .i64 (.ofNat (nat_lit 0))), (.int .i64 (.ofNat (nat_lit 0))), (.int .i64 (.ofNat (nat_lit 0))), (.int .i64 (.ofNat (nat_lit 0))), (.int .i64 (.ofNat (nat_lit 0))), (.str (sb []))] [(0, 1), (1, 1), (2, 1)] [x7, x9, x11]) fun x12 =>
  (f132_3 x2 x3 x4 x12 h)

/- concord/letter.Right -/
noncomputable def l54 : List (Nat × (List V → HT → Option J)) := [(48, f48), (101, f101), (130, f130), (131, f131), (132, f132), (133, f133), (134, f134), (135, f135)]
noncomputable def t54 : Fns := tab l54
noncomputable def f54_0 (x1 : V) (x64 : V) (x67 : V) (h : HT) : Option J := bndC (gsel x64 false (f135 [x67] h) h) fun x68 h =>
  bndC (gsel x64 false (retV (rNot x68) h) h) fun x69 h =>
  bndV (rPick x64 (.bool true) x69) fun x70 =>
  tstv x70 (ret1 (.bool false) h)
  (bndV (rFa 43 x1) fun x71 =>
  bndV (rLdN h 7 x71) fun x72 =>
  bndV (rBld [(.int .i64 (.ofNat (nat_lit 0))), (.int .i64 (.ofNat (nat_lit 0))), (.int .i64 (.ofNat (nat_lit 0))), (.int .i64 (.ofNat (nat_lit 0))), (.int .i64 (.ofNat (nat_lit 0))), (.int .i64 (.ofNat (nat_lit 0))), (.int .i64 (.ofNat (nat_lit 0))), (.int .i64 (.ofNat (nat_lit 0)))] [(1, 7)] [x72]) fun x73 =>
  bndC (f101 [x73] h) fun x74 h =>
  bndC (gsel x74 true (retV (rFa 50 x1) h) h) fun x76 h =>
  bndC (gsel x74 true (retV (rLd h x76) h) h) fun x77 h =>
  bndC (gsel x74 true (retV (kLenT [x77]) h) h) fun x78 h =>
  bndC (gsel x74 true (retV (rLeq x78 (.int .i64 (.ofNat (nat_lit 16384)))) h) h) fun x79 h =>
  bndV (rPick x74 x79 (.bool false)) fun x80 =>
  ret1 x80 h)
noncomputable def f54_1 (x1 : V) (x46 : V) (x50 : V) (h : HT) : Option J := bndC (gsel x46 false (retV (rNot x50) h) h) fun x51 h =>
  bndV (rPick x46 (.bool true) x51) fun x52 =>
  bndC (gsel x52 false (retV (rFa 7 x1) h) h) fun x54 h =>
  bndC (gsel x52 false (retV (rLdN h 7 x54) h) h) fun x55 h =>
  bndC (gsel x52 false (f48 [x55] h) h) fun x56 h =>
  bndC (gsel x52 false (retV (rNot x56) h) h) fun x57 h =>
  bndV (rPick x52 (.bool true) x57) fun x58 =>
  bndC (gsel x58 false (retV (rFa 14 x1) h) h) fun x60 h =>
  bndC (gsel x58 false (retV (rLdN h 8 x60) h) h) fun x61 h =>
  bndC (gsel x58 false (f101 [x61] h) h) fun x62 h =>
  bndC (gsel x58 false (retV (rNot x62) h) h) fun x63 h =>
  bndV (rPick x58 (.bool true) x63) fun x64 =>
  bndC (gsel x64 false (retV (rFa 22 x1) h) h) fun x66 h =>
  bndC (gsel x64 false (retV (rLdN h 21 x66) h) h) fun x67 h =>
  (f54_0 x1 x64 x67 h)
noncomputable def f54_2 (x1 : V) (x3 : V) (x31 : V) (x33 : V) (x36 : V) (h : HT) : Option J := bndC (gsel x31 false (retV (kEqF true [.i, .i, .i, .i, .i, .i, .i, .i, .i, .i, .s, .s, .s, .s, .i, .i, .i, .i, .i, .i, .i, .i, .i, .i, .i, .i, .i, .i, .i, .i, .s, .s, .s, .s, .i, .i, .i, .i, .i, .i, .i, .i, .b, .i, .i, .i, .i, .i, .i, .i, .s] [x33, x36]) h) h) fun x37 h =>
  bndV (rPick x31 (.bool true) x37) fun x38 =>
  tstv x38 (ret1 (.bool false) h)
  (bndV (rFa 0 x3) fun x39 =>
  bndV (rLd h x39) fun x40 =>
  bndC (gsel x40 true (retV (rFa 3 x1) h) h) fun x42 h =>
  bndC (gsel x40 true (retV (rLdN h 2 x42) h) h) fun x43 h =>
  bndC (gsel x40 true (f133 [x43] h) h) fun x44 h =>
  bndC (gsel x40 true (retV (rNot x44) h) h) fun x45 h =>
  bndV (rPick x40 x45 (.bool false)) fun x46 =>
  bndC (gsel x46 false (retV (rFa 5 x1) h) h) fun x48 h =>
  bndC (gsel x46 false (retV (rLdN h 2 x48) h) h) fun x49 h =>
  bndC (gsel x46 false (f134 [x49] h) h) fun x50 h =>
  (f54_1 x1 x46 x50 h))
noncomputable def f54_3 (x1 : V) (x3 : V) (x18 : V) (x21 : V) (h : HT) : Option J := bndC (gsel x18 false (f131 [x21] h) h) fun x22 h =>
  bndC (gsel x18 false (retV (rNot x22) h) h) fun x23 h =>
  bndV (rPick x18 (.bool true) x23) fun x24 =>
  bndC (gsel x24 false (retV (rFa 1 x1) h) h) fun x26 h =>
  bndC (gsel x24 false (retV (rLd h x26) h) h) fun x27 h =>
  bndC (gsel x24 false (retV (rFa 2 x1) h) h) fun x28 h =>
  bndC (gsel x24 false (retV (rLd h x28) h) h) fun x29 h =>
  bndC (gsel x24 false (retV (rEql x27 x29) h) h) fun x30 h =>
  bndV (rPick x24 (.bool true) x30) fun x31 =>
  bndC (gsel x31 false (retV (rLdN h 51 x1) h) h) fun x33 h =>
  bndC (gsel x31 false (retV (rLdN h 51 x1) h) h) fun x34 h =>
  bndC (gsel x31 false (retV (rLdN h 7 x3) h) h) fun x35 h =>
  bndC (gsel x31 false (f132 [x34, x35] h) h) fun x36 h =>
  chk1 (gchk x31 false (sameE (rLdN h 51 x1) x33)) ((f54_2 x1 x3 x31 x33 x36 h))
noncomputable def f54_4 (x1 : V) (x6 : V) (h : HT) : Option J := bndV (rLd h x6) fun x7 =>
  bndC (f130 [x7] h) fun x8 h =>
  bndV (rExt 0 x8) fun x9 =>
  bndV (rExt 1 x8) fun x10 =>
  bndN (rAlloc [(.bool false), (.bool false), (.bool false), (.bool false), (.bool false), (.bool false), (.bool false)] []) h fun x3 h =>
  bndE (rSt h 7 x3 x9) h fun _ h =>
  bndV (rNot x10) fun x12 =>
  bndC (gsel x12 false (retV (rFa 1 x1) h) h) fun x14 h =>
  bndC (gsel x12 false (retV (rLd h x14) h) h) fun x15 h =>
  bndC (gsel x12 false (f131 [x15] h) h) fun x16 h =>
  bndC (gsel x12 false (retV (rNot x16) h) h) fun x17 h =>
  bndV (rPick x12 (.bool true) x17) fun x18 =>
  bndC (gsel x18 false (retV (rFa 2 x1) h) h) fun x20 h =>
  bndC (gsel x18 false (retV (rLd h x20) h) h) fun x21 h =>
  (f54_3 x1 x3 x18 x21 h)
noncomputable def f54 (vs : List V) (h : HT) : Option J := unc1 vs fun x0 =>
  bndN (rBox x0) h fun x1 h =>
  bndV (rFa 0 x1) fun x6 =>
  (f54_4 x1 x6 h)

/- (*concord/core.Core).one -/
noncomputable def l138 : List (Nat × (List V → HT → Option J)) := []
noncomputable def t138 : Fns := tab l138

noncomputable def f138 (vs : List V) (h : HT) : Option J := unc2 vs fun x0 x1 =>
  bndV (rGeq x1 (.int .i64 (.ofNat (nat_lit 0)))) fun x6 =>
  bndC (gsel x6 true (retV (kMov [x1]) h) h) fun x8 h =>
  bndC (gsel x6 true (retV (kMov [x0]) h) h) fun x9 h =>
  bndC (gsel x6 true (retV (rNilc x9) h) h) fun x10 h =>
  bndC (gsel x6 true (retV (rFa 0 x10) h) h) fun x11 h =>
  bndC (gsel x6 true (retV (rLd h x11) h) h) fun x12 h =>
  bndC (gsel x6 true (retV (rLss x8 x12) h) h) fun x13 h =>
  bndV (rPick x6 x13 (.bool false)) fun x14 =>
  ret1 x14 h

/- (*concord/core.Core).find -/
noncomputable def l212 : List (Nat × (List V → HT → Option J)) := []
noncomputable def t212 : Fns := tab l212
noncomputable def f212_0 (rc : List V → HT → Option J) (x3 : V) (x10 : V) (x11 : V) (vs : List V) (h : HT) : Option J := unc1 vs fun x12 =>
  bndV (rLss x12 x11) fun x13 =>
  tstv x13 (bndV (rIaS 1 x10 x12) fun x14 =>
  bndV (rLd h x14) fun x15 =>
  bndV (rNilc x15) fun x17 =>
  bndV (rFa 0 x17) fun x18 =>
  bndV (rLdN h 2 x18) fun x19 =>
  bndV (rLdN h 2 x3) fun x20 =>
  bndV (kEqF false [.i, .i] [x19, x20]) fun x21 =>
  tstv x21 (some ⟨1, [x15], h⟩)
  (bndV (rAdd x12 (.int .i64 (.ofNat (nat_lit 1)))) fun x23 =>
  rc [x23] h))
  (some ⟨0, [], h⟩)
noncomputable def f212 (vs : List V) (h : HT) : Option J := unc2 vs fun x0 x1 =>
  bndN (rBox x1) h fun x3 h =>
  bndV (rNilc x0) fun x8 =>
  bndV (rFa 4 x8) fun x9 =>
  bndV (rLd h x9) fun x10 =>
  bndV (rLenS x10) fun x11 =>
  bndJ (loopF (fun rc vs h => (f212_0 rc x3 x10 x11 vs h)) 1000000 [(.int .i64 (.ofNat (nat_lit 0)))] h)
  fun j vs h => nsw j (ret1 (.ptr none) h)
  fun j => unc1 vs fun x4 =>
  ret1 x4 h

/- concord/deps.Join -/
noncomputable def l276 : List (Nat × (List V → HT → Option J)) := []
noncomputable def t276 : Fns := tab l276
noncomputable def f276_0 (x3 : V) (x29 : V) (h : HT) : Option J := loopF (fun rc vs h => unc1 vs fun x30 =>
  bndV (rLss x30 (.int .i64 (.ofNat (nat_lit 7)))) fun x31 =>
  tstv x31 (bndV (rIxA 7 1 x29 x30) fun x33 =>
  bndV (rFa 1 x3) fun x36 =>
  bndV (rIaA 7 1 x36 x30) fun x37 =>
  bndV (rLd h x37) fun x38 =>
  bndV (rMax x38 x33) fun x40 =>
  bndV (rFa 1 x3) fun x41 =>
  bndV (rIaA 7 1 x41 x30) fun x42 =>
  bndE (rSt h 1 x42 x40) h fun _ h =>
  bndV (rAdd x30 (.int .i64 (.ofNat (nat_lit 1)))) fun x43 =>
  rc [x43] h)
  (some ⟨0, [], h⟩)) 1000000 [(.int .i64 (.ofNat (nat_lit 0)))] h
noncomputable def f276_1 (rc : List V → HT → Option J) (x3 : V) (x18 : V) (x21 : V) (h : HT) : Option J := bndN (rAlloc [(.int .i64 (.ofNat (nat_lit 0))), (.int .i64 (.ofNat (nat_lit 0))), (.int .i64 (.ofNat (nat_lit 0))), (.int .i64 (.ofNat (nat_lit 0))), (.int .i64 (.ofNat (nat_lit 0))), (.int .i64 (.ofNat (nat_lit 0))), (.int .i64 (.ofNat (nat_lit 0))), (.int .i64 (.ofNat (nat_lit 0)))] []) h fun x5 h =>
  bndE (rSt h 8 x5 x21) h fun _ h =>
  bndV (rFa 0 x3) fun x22 =>
  bndV (rLd h x22) fun x23 =>
  bndV (rFa 0 x5) fun x24 =>
  bndV (rLd h x24) fun x25 =>
  bndV (rMax x23 x25) fun x26 =>
  bndV (rFa 0 x3) fun x27 =>
  bndE (rSt h 1 x27 x26) h fun _ h =>
  bndV (rFa 1 x5) fun x28 =>
  bndV (rLdN h 7 x28) fun x29 =>
  bndJ ((f276_0 x3 x29 h))
  fun j vs h => bndV (rAdd x18 (.int .i64 (.ofNat (nat_lit 1)))) fun x44 =>
  rc [x44] h
noncomputable def f276_2 (x0 : V) (x2 : V) (x3 : V) (h : HT) : Option J := bndV (kSlS 8 true false [x0, (.int .i64 (.ofNat (nat_lit 1)))]) fun x16 =>
  bndV (rLenS x16) fun x17 =>
  bndJ (loopF (fun rc vs h => unc1 vs fun x18 =>
  bndV (rLss x18 x17) fun x19 =>
  tstv x19 (bndV (rIaS 8 x16 x18) fun x20 =>
  bndV (rLdN h 8 x20) fun x21 =>
  (f276_1 rc x3 x18 x21 h))
  (some ⟨0, [], h⟩)) 1000000 [(.int .i64 (.ofNat (nat_lit 0)))] h)
  fun j vs h => bndV (rLdN h 8 x3) fun x45 =>
  bndE (rSt h 8 x2 x45) h fun _ h =>
  bndV (qLd h (some 8) [x2]) fun x900000 =>
  ret1 x900000 h
noncomputable def f276 (vs : List V) (h : HT) : Option J := unc1 vs fun x0 =>
  bndN (rAlloc [(.int .i64 (.ofNat (nat_lit 0))), (.int .i64 (.ofNat (nat_lit 0))), (.int .i64 (.ofNat (nat_lit 0))), (.int .i64 (.ofNat (nat_lit 0))), (.int .i64 (.ofNat (nat_lit 0))), (.int .i64 (.ofNat (nat_lit 0))), (.int .i64 (.ofNat (nat_lit 0))), (.int .i64 (.ofNat (nat_lit 0)))] []) h fun x2 h =>
  bndV (rLenS x0) fun x9 =>
  bndV (rEql x9 (.int .i64 (.ofNat (nat_lit 0)))) fun x10 =>
  tstv x10 (bndV (rBld [(.int .i64 (.ofNat (nat_lit 0))), (.int .i64 (.ofNat (nat_lit 0))), (.int .i64 (.ofNat (nat_lit 0))), (.int .i64 (.ofNat (nat_lit 0))), (.int .i64 (.ofNat (nat_lit 0))), (.int .i64 (.ofNat (nat_lit 0))), (.int .i64 (.ofNat (nat_lit 0))), (.int .i64 (.ofNat (nat_lit 0)))] [] []) fun x11 =>
  bndE (rSt h 8 x2 x11) h fun _ h =>
  bndV (qLd h (some 8) [x2]) fun x900000 =>
  ret1 x900000 h)
  (bndV (rIaS 8 x0 (.int .i64 (.ofNat (nat_lit 0)))) fun x13 =>
  bndV (rLdN h 8 x13) fun x14 =>
  bndN (rAlloc [(.int .i64 (.ofNat (nat_lit 0))), (.int .i64 (.ofNat (nat_lit 0))), (.int .i64 (.ofNat (nat_lit 0))), (.int .i64 (.ofNat (nat_lit 0))), (.int .i64 (.ofNat (nat_lit 0))), (.int .i64 (.ofNat (nat_lit 0))), (.int .i64 (.ofNat (nat_lit 0))), (.int .i64 (.ofNat (nat_lit 0)))] []) h fun x3 h =>
  bndE (rSt h 8 x3 x14) h fun _ h =>
  (f276_2 x0 x2 x3 h))

/- (*concord/core.Core).pre -/
noncomputable def l214 : List (Nat × (List V → HT → Option J)) := [(101, f101), (126, f126), (127, f127), (211, f211), (276, f276)]
noncomputable def t214 : Fns := tab l214
noncomputable def f214_0 (x0 : V) (x5 : V) (x8 : V) (x9 : V) (x49 : V) (x52 : V) (x54 : V) (x56 : V) (x58 : V) (x60 : V) (x62 : V) (x63 : V) (h : HT) : Option J := bndC (gsel x52 false (retV (kMov [x49]) h) h) fun x64 h =>
  bndC (gsel x52 false (retV (rBld [(.int .i64 (.ofNat (nat_lit 0))), (.int .i64 (.ofNat (nat_lit 0))), (.int .i64 (.ofNat (nat_lit 0))), (.int .i64 (.ofNat (nat_lit 0))), (.int .i64 (.ofNat (nat_lit 0))), (.int .i64 (.ofNat (nat_lit 0))), (.int .i64 (.ofNat (nat_lit 0))), (.int .i64 (.ofNat (nat_lit 0))), (.str (sb [])), (.str (sb [])), (.str (sb [])), (.str (sb [])), (.int .i64 (.ofNat (nat_lit 0))), (.int .i64 (.ofNat (nat_lit 0))), (.int .i64 (.ofNat (nat_lit 0))), (.int .i64 (.ofNat (nat_lit 0))), (.int .i64 (.ofNat (nat_lit 0))), (.int .i64 (.ofNat (nat_lit 0))), (.int .i64 (.ofNat (nat_lit 0))), (.int .i64 (.ofNat (nat_lit 0))), (.bool false)] [(0, 1), (1, 2), (3, 2), (5, 7), (12, 8), (20, 1)] [(.int .i64 (.ofNat (nat_lit 1))), x58, x60, x62, x63, x64]) h) h) fun x65 h =>
  bndC (gsel x52 false (f127 [x54, x56, x65] h) h) fun x66 h =>
  bndC (gsel x52 false (retV (rNot x66) h) h) fun x67 h =>
  bndV (rPick x52 (.bool true) x67) fun x68 =>
  tstv x68 (ret1 (.tuple []) h)
  (bndV (rLdN h 8 x9) fun x69 =>
  bndV (rFa 14 x8) fun x70 =>
  bndE (rSt h 8 x70 x69) h fun _ h =>
  bndV (rFa 1 x5) fun x72 =>
  bndV (rLd h x72) fun x73 =>
  bndV (rLdN h 51 x8) fun x74 =>
  bndC (f211 [x0, x73, x74] h) fun x75 h =>
  ret1 (.tuple []) h)
noncomputable def f214_1 (x0 : V) (x5 : V) (x8 : V) (x9 : V) (x43 : V) (x48 : V) (h : HT) : Option J := bndV (rPick x43 x48 (.bool false)) fun x49 =>
  bndV (rLdN h 8 x9) fun x50 =>
  bndC (f101 [x50] h) fun x51 h =>
  bndV (rNot x51) fun x52 =>
  bndC (gsel x52 false (retV (kMov [x0]) h) h) fun x54 h =>
  bndC (gsel x52 false (retV (rFa 3 x5) h) h) fun x55 h =>
  bndC (gsel x52 false (retV (rLdN h 2 x55) h) h) fun x56 h =>
  bndC (gsel x52 false (retV (rFa 5 x5) h) h) fun x57 h =>
  bndC (gsel x52 false (retV (rLdN h 2 x57) h) h) fun x58 h =>
  bndC (gsel x52 false (retV (rFa 5 x5) h) h) fun x59 h =>
  bndC (gsel x52 false (retV (rLdN h 2 x59) h) h) fun x60 h =>
  bndC (gsel x52 false (retV (rFa 7 x5) h) h) fun x61 h =>
  bndC (gsel x52 false (retV (rLdN h 7 x61) h) h) fun x62 h =>
  bndC (gsel x52 false (retV (rLdN h 8 x9) h) h) fun x63 h =>
  (f214_0 x0 x5 x8 x9 x49 x52 x54 x56 x58 x60 x62 x63 h)
noncomputable def f214_2 (x0 : V) (x5 : V) (x8 : V) (x27 : V) (x28 : V) (x32 : V) (x34 : V) (x36 : V) (h : HT) : Option J := bndN (rAlloc [(.int .i64 (.ofNat (nat_lit 0))), (.int .i64 (.ofNat (nat_lit 0))), (.int .i64 (.ofNat (nat_lit 0))), (.int .i64 (.ofNat (nat_lit 0))), (.int .i64 (.ofNat (nat_lit 0))), (.int .i64 (.ofNat (nat_lit 0))), (.int .i64 (.ofNat (nat_lit 0))), (.int .i64 (.ofNat (nat_lit 0)))] []) h fun x9 h =>
  bndC (f126 [x32, x34, x36] h) fun x37 h =>
  chk1 (sameE (rLdN h 8 x27) x28) (bndN (rBsl 8 2 [(.int .i64 (.ofNat (nat_lit 0))), (.int .i64 (.ofNat (nat_lit 0))), (.int .i64 (.ofNat (nat_lit 0))), (.int .i64 (.ofNat (nat_lit 0))), (.int .i64 (.ofNat (nat_lit 0))), (.int .i64 (.ofNat (nat_lit 0))), (.int .i64 (.ofNat (nat_lit 0))), (.int .i64 (.ofNat (nat_lit 0))), (.int .i64 (.ofNat (nat_lit 0))), (.int .i64 (.ofNat (nat_lit 0))), (.int .i64 (.ofNat (nat_lit 0))), (.int .i64 (.ofNat (nat_lit 0))), (.int .i64 (.ofNat (nat_lit 0))), (.int .i64 (.ofNat (nat_lit 0))), (.int .i64 (.ofNat (nat_lit 0))), (.int .i64 (.ofNat (nat_lit 0)))] [(0, 8), (8, 8)] [x28, x37]) h fun x38 h =>
  bndC (f276 [x38] h) fun x39 h =>
  bndE (rSt h 8 x9 x39) h fun _ h =>
  bndV (rFa 5 x5) fun x40 =>
  bndV (rLdN h 2 x40) fun x41 =>
  bndV (rBld [(.int .i64 (.ofNat (nat_lit 0))), (.int .i64 (.ofNat (nat_lit 0)))] [] []) fun x42 =>
  bndV (kEqF false [.i, .i] [x41, x42]) fun x43 =>
  bndC (gsel x43 true (retV (rLdN h 8 x9) h) h) fun x45 h =>
  bndC (gsel x43 true (retV (rFa 14 x5) h) h) fun x46 h =>
  bndC (gsel x43 true (retV (rLdN h 8 x46) h) h) fun x47 h =>
  bndC (gsel x43 true (retV (kEqF false [.i, .i, .i, .i, .i, .i, .i, .i] [x45, x47]) h) h) fun x48 h =>
  (f214_1 x0 x5 x8 x9 x43 x48 h))
noncomputable def f214_3 (x0 : V) (x3 : V) (x5 : V) (x6 : V) (x8 : V) (h : HT) : Option J := tstv x3 (bndV (rFa 0 x6) fun x19 =>
  bndV (rLd h x19) fun x20 =>
  bndV (rEql x20 (.int .i64 (.ofNat (nat_lit 1)))) fun x21 =>
  tstv x21 (bndV (rFa 1 x5) fun x23 =>
  bndV (rLd h x23) fun x24 =>
  bndV (rLdN h 51 x8) fun x25 =>
  bndC (f211 [x0, x24, x25] h) fun x26 h =>
  ret1 (.tuple []) h)
  (ret1 (.tuple []) h))
  (bndV (rFa 14 x5) fun x27 =>
  bndV (rLdN h 8 x27) fun x28 =>
  bndV (rNilc x0) fun x30 =>
  bndV (rFa 3 x30) fun x31 =>
  bndV (rLd h x31) fun x32 =>
  bndV (rFa 3 x5) fun x33 =>
  bndV (rLdN h 2 x33) fun x34 =>
  bndV (rFa 7 x5) fun x35 =>
  bndV (rLdN h 7 x35) fun x36 =>
  (f214_2 x0 x5 x8 x27 x28 x32 x34 x36 h))
noncomputable def f214 (vs : List V) (h : HT) : Option J := unc4 vs fun x0 x1 x2 x3 vs =>
  bndN (rBox x1) h fun x5 h =>
  bndN (rBox x2) h fun x6 h =>
  bndV (rFa 3 x5) fun x11 =>
  bndV (rLdN h 2 x11) fun x12 =>
  bndV (rFa 5 x5) fun x13 =>
  bndV (rLdN h 2 x13) fun x14 =>
  bndV (rFa 12 x6) fun x15 =>
  bndV (rLdN h 8 x15) fun x16 =>
  bndV (rBld [(.int .i64 (.ofNat (nat_lit 0))), (.int .i64 (.ofNat (nat_lit 0))), (.int .i64 (.ofNat (nat_lit 0))), (.int .i64 (.ofNat (nat_lit 0))), (.int .i64 (.ofNat (nat_lit 0))), (.int .i64 (.ofNat (nat_lit 0))), (.int .i64 (.ofNat (nat_lit 0))), (.int .i64 (.ofNat (nat_lit 0))), (.int .i64 (.ofNat (nat_lit 0))), (.int .i64 (.ofNat (nat_lit 0))), (.str (sb [])), (.str (sb [])), (.str (sb [])), (.str (sb [])), (.int .i64 (.ofNat (nat_lit 0))), (.int .i64 (.ofNat (nat_lit 0))), (.int .i64 (.ofNat (nat_lit 0))), (.int .i64 (.ofNat (nat_lit 0))), (.int .i64 (.ofNat (nat_lit 0))), (.int .i64 (.ofNat (nat_lit 0))), (.int .i64 (.ofNat (nat_lit 0))), (.int .i64 (.ofNat (nat_lit 0))), (.int .i64 (.ofNat (nat_lit 0))), (.int .i64 (.ofNat (nat_lit 0))), (.int .i64 (.ofNat (nat_lit 0))), (.int .i64 (.ofNat (nat_lit 0))), (.int .i64 (.ofNat (nat_lit 0))), (.int .i64 (.ofNat (nat_lit 0))), (.int .i64 (.ofNat (nat_lit 0))), (.int .i64 (.ofNat (nat_lit 0))), (.str (sb [])), (.str (sb [])), (.str (sb [])), (.str (sb [])), (.int .i64 (.ofNat (nat_lit 0))), (.int .i64 (.ofNat (nat_lit 0))), (.int .i64 (.ofNat (nat_lit 0))), (.int .i64 (.ofNat (nat_lit 0))), (.int .i64 (.ofNat (nat_lit 0))), (.int .i64 (.ofNat (nat_lit 0))), (.int .i64 (.ofNat (nat_lit 0))), (.int .i64 (.ofNat (nat_lit 0))), (.bool false), (.int .i64 (.ofNat (nat_lit 0))), (.int .i64 (.ofNat (nat_lit 0))), (.int .i64 (.ofNat (nat_lit 0))), (.int .i64 (.ofNat (nat_lit 0))), (.int .i64 (.ofNat (nat_lit 0))), (.int .i64 (.ofNat (nat_lit 0))), (.int .i64 (.ofNat (nat_lit 0))), (.str (sb []))] [(0, 1), (3, 2), (5, 2), (14, 8)] [(.int .i64 (.ofNat (nat_lit 2))), x12, x14, x16]) fun x17 =>
  bndN (rAlloc [(.int .i64 (.ofNat (nat_lit 0))), (.int .i64 (.ofNat (nat_lit 0))), (.int .i64 (.ofNat (nat_lit 0))), (.int .i64 (.ofNat (nat_lit 0))), (.int .i64 (.ofNat (nat_lit 0))), (.int .i64 (.ofNat (nat_lit 0))), (.int .i64 (.ofNat (nat_lit 0))), (.int .i64 (.ofNat (nat_lit 0))), (.int .i64 (.ofNat (nat_lit 0))), (.int .i64 (.ofNat (nat_lit 0))), (.str (sb [])), (.str (sb [])), (.str (sb [])), (.str (sb [])), (.int .i64 (.ofNat (nat_lit 0))), (.int .i64 (.ofNat (nat_lit 0))), (.int .i64 (.ofNat (nat_lit 0))), (.int .i64 (.ofNat (nat_lit 0))), (.int .i64 (.ofNat (nat_lit 0))), (.int .i64 (.ofNat (nat_lit 0))), (.int .i64 (.ofNat (nat_lit 0))), (.int .i64 (.ofNat (nat_lit 0))), (.int .i64 (.ofNat (nat_lit 0))), (.int .i64 (.ofNat (nat_lit 0))), (.int .i64 (.ofNat (nat_lit 0))), (.int .i64 (.ofNat (nat_lit 0))), (.int .i64 (.ofNat (nat_lit 0))), (.int .i64 (.ofNat (nat_lit 0))), (.int .i64 (.ofNat (nat_lit 0))), (.int .i64 (.ofNat (nat_lit 0))), (.str (sb [])), (.str (sb [])), (.str (sb [])), (.str (sb [])), (.int .i64 (.ofNat (nat_lit 0))), (.int .i64 (.ofNat (nat_lit 0))), (.int .i64 (.ofNat (nat_lit 0))), (.int .i64 (.ofNat (nat_lit 0))), (.int .i64 (.ofNat (nat_lit 0))), (.int .i64 (.ofNat (nat_lit 0))), (.int .i64 (.ofNat (nat_lit 0))), (.int .i64 (.ofNat (nat_lit 0))), (.bool false), (.int .i64 (.ofNat (nat_lit 0))), (.int .i64 (.ofNat (nat_lit 0))), (.int .i64 (.ofNat (nat_lit 0))), (.int .i64 (.ofNat (nat_lit 0))), (.int .i64 (.ofNat (nat_lit 0))), (.int .i64 (.ofNat (nat_lit 0))), (.int .i64 (.ofNat (nat_lit 0))), (.str (sb []))] []) h fun x8 h =>
  bndE (rSt h 51 x8 x17) h fun _ h =>
  (f214_3 x0 x3 x5 x6 x8 h)

/- (*concord/core.Core).asked -/
noncomputable def l140 : List (Nat × (List V → HT → Option J)) := [(205, f205), (209, f209), (212, f212), (214, f214)]
noncomputable def t140 : Fns := tab l140
noncomputable def f140_0 (x0 : V) (x3 : V) (x92 : V) (x95 : V) (x97 : V) (x99 : V) (x101 : V) (x103 : V) (x104 : V) (h : HT) : Option J := bndC (gsel x92 false (retV (rLdN h 8 x104) h) h) fun x105 h =>
  bndC (gsel x92 false (retV (rBld [(.int .i64 (.ofNat (nat_lit 0))), (.int .i64 (.ofNat (nat_lit 0))), (.int .i64 (.ofNat (nat_lit 0))), (.int .i64 (.ofNat (nat_lit 0))), (.int .i64 (.ofNat (nat_lit 0))), (.int .i64 (.ofNat (nat_lit 0))), (.int .i64 (.ofNat (nat_lit 0))), (.int .i64 (.ofNat (nat_lit 0))), (.str (sb [])), (.str (sb [])), (.str (sb [])), (.str (sb [])), (.int .i64 (.ofNat (nat_lit 0))), (.int .i64 (.ofNat (nat_lit 0))), (.int .i64 (.ofNat (nat_lit 0))), (.int .i64 (.ofNat (nat_lit 0))), (.int .i64 (.ofNat (nat_lit 0))), (.int .i64 (.ofNat (nat_lit 0))), (.int .i64 (.ofNat (nat_lit 0))), (.int .i64 (.ofNat (nat_lit 0))), (.bool false)] [(0, 1), (1, 2), (3, 2), (5, 7), (12, 8)] [(.int .i64 (.ofNat (nat_lit 2))), x99, x101, x103, x105]) h) h) fun x106 h =>
  bndC (gsel x92 false (noF [x95, x97, x106] h) h) fun x107 h =>
  bndV (rPick x92 (.bool true) x107) fun x108 =>
  tstv x108 (bndV (rFa 1 x3) fun x110 =>
  bndV (rLd h x110) fun x111 =>
  bndV (rFa 3 x3) fun x112 =>
  bndV (rLdN h 2 x112) fun x113 =>
  bndV (rFa 5 x3) fun x114 =>
  bndV (rLdN h 2 x114) fun x115 =>
  bndV (rBld [(.int .i64 (.ofNat (nat_lit 0))), (.int .i64 (.ofNat (nat_lit 0))), (.int .i64 (.ofNat (nat_lit 0))), (.int .i64 (.ofNat (nat_lit 0))), (.int .i64 (.ofNat (nat_lit 0))), (.int .i64 (.ofNat (nat_lit 0))), (.int .i64 (.ofNat (nat_lit 0))), (.int .i64 (.ofNat (nat_lit 0))), (.int .i64 (.ofNat (nat_lit 0))), (.int .i64 (.ofNat (nat_lit 0))), (.str (sb [])), (.str (sb [])), (.str (sb [])), (.str (sb [])), (.int .i64 (.ofNat (nat_lit 0))), (.int .i64 (.ofNat (nat_lit 0))), (.int .i64 (.ofNat (nat_lit 0))), (.int .i64 (.ofNat (nat_lit 0))), (.int .i64 (.ofNat (nat_lit 0))), (.int .i64 (.ofNat (nat_lit 0))), (.int .i64 (.ofNat (nat_lit 0))), (.int .i64 (.ofNat (nat_lit 0))), (.int .i64 (.ofNat (nat_lit 0))), (.int .i64 (.ofNat (nat_lit 0))), (.int .i64 (.ofNat (nat_lit 0))), (.int .i64 (.ofNat (nat_lit 0))), (.int .i64 (.ofNat (nat_lit 0))), (.int .i64 (.ofNat (nat_lit 0))), (.int .i64 (.ofNat (nat_lit 0))), (.int .i64 (.ofNat (nat_lit 0))), (.str (sb [])), (.str (sb [])), (.str (sb [])), (.str (sb [])), (.int .i64 (.ofNat (nat_lit 0))), (.int .i64 (.ofNat (nat_lit 0))), (.int .i64 (.ofNat (nat_lit 0))), (.int .i64 (.ofNat (nat_lit 0))), (.int .i64 (.ofNat (nat_lit 0))), (.int .i64 (.ofNat (nat_lit 0))), (.int .i64 (.ofNat (nat_lit 0))), (.int .i64 (.ofNat (nat_lit 0))), (.bool false), (.int .i64 (.ofNat (nat_lit 0))), (.int .i64 (.ofNat (nat_lit 0))), (.int .i64 (.ofNat (nat_lit 0))), (.int .i64 (.ofNat (nat_lit 0))), (.int .i64 (.ofNat (nat_lit 0))), (.int .i64 (.ofNat (nat_lit 0))), (.int .i64 (.ofNat (nat_lit 0))), (.str (sb []))] [(0, 1), (3, 2), (5, 2)] [(.int .i64 (.ofNat (nat_lit 4))), x113, x115]) fun x116 =>
  bndC (noF [x0, x111, x116] h) fun x117 h =>
  ret1 (.tuple []) h)
  (ret1 (.tuple []) h)
noncomputable def f140_1 (x0 : V) (x3 : V) (x4 : V) (x75 : V) (h : HT) : Option J := bndC (gsel x75 true (retV (rFa 0 x4) h) h) fun x89 h =>
  bndC (gsel x75 true (retV (rLd h x89) h) h) fun x90 h =>
  bndC (gsel x75 true (retV (rEql x90 (.int .i64 (.ofNat (nat_lit 2)))) h) h) fun x91 h =>
  bndV (rPick x75 x91 (.bool false)) fun x92 =>
  bndC (gsel x92 false (retV (kMov [x0]) h) h) fun x95 h =>
  bndC (gsel x92 false (retV (rFa 3 x3) h) h) fun x96 h =>
  bndC (gsel x92 false (retV (rLdN h 2 x96) h) h) fun x97 h =>
  bndC (gsel x92 false (retV (rFa 5 x3) h) h) fun x98 h =>
  bndC (gsel x92 false (retV (rLdN h 2 x98) h) h) fun x99 h =>
  bndC (gsel x92 false (retV (rFa 5 x3) h) h) fun x100 h =>
  bndC (gsel x92 false (retV (rLdN h 2 x100) h) h) fun x101 h =>
  bndC (gsel x92 false (retV (rFa 7 x3) h) h) fun x102 h =>
  bndC (gsel x92 false (retV (rLdN h 7 x102) h) h) fun x103 h =>
  bndC (gsel x92 false (retV (rFa 14 x3) h) h) fun x104 h =>
  (f140_0 x0 x3 x92 x95 x97 x99 x101 x103 x104 h)
noncomputable def f140_2 (x0 : V) (x3 : V) (x4 : V) (x124 : V) (h : HT) : Option J := bndJ (tstv x124 (bndV (rFa 5 x3) fun x125 =>
  bndV (rLdN h 2 x125) fun x126 =>
  bndV (rFa 1 x4) fun x127 =>
  bndE (rSt h 2 x127 x126) h fun _ h =>
  bndV (rFa 3 x3) fun x129 =>
  bndV (rLdN h 2 x129) fun x130 =>
  bndV (rLdN h 21 x4) fun x131 =>
  bndC (noF [x0, x130, x131] h) fun x132 h =>
  bndV (rNot x132) fun x133 =>
  tstv x133 (some ⟨0, [], h⟩)
  (some ⟨1, [], h⟩))
  (some ⟨1, [], h⟩))
  fun j vs h => nsw j (ret1 (.tuple []) h)
  fun j => bndV (rFa 1 x3) fun x135 =>
  bndV (rLd h x135) fun x136 =>
  bndV (rFa 3 x3) fun x137 =>
  bndV (rLdN h 2 x137) fun x138 =>
  bndV (rFa 5 x3) fun x139 =>
  bndV (rLdN h 2 x139) fun x140 =>
  bndV (rLdN h 21 x4) fun x141 =>
  bndV (rBld [(.int .i64 (.ofNat (nat_lit 0))), (.int .i64 (.ofNat (nat_lit 0))), (.int .i64 (.ofNat (nat_lit 0))), (.int .i64 (.ofNat (nat_lit 0))), (.int .i64 (.ofNat (nat_lit 0))), (.int .i64 (.ofNat (nat_lit 0))), (.int .i64 (.ofNat (nat_lit 0))), (.int .i64 (.ofNat (nat_lit 0))), (.int .i64 (.ofNat (nat_lit 0))), (.int .i64 (.ofNat (nat_lit 0))), (.str (sb [])), (.str (sb [])), (.str (sb [])), (.str (sb [])), (.int .i64 (.ofNat (nat_lit 0))), (.int .i64 (.ofNat (nat_lit 0))), (.int .i64 (.ofNat (nat_lit 0))), (.int .i64 (.ofNat (nat_lit 0))), (.int .i64 (.ofNat (nat_lit 0))), (.int .i64 (.ofNat (nat_lit 0))), (.int .i64 (.ofNat (nat_lit 0))), (.int .i64 (.ofNat (nat_lit 0))), (.int .i64 (.ofNat (nat_lit 0))), (.int .i64 (.ofNat (nat_lit 0))), (.int .i64 (.ofNat (nat_lit 0))), (.int .i64 (.ofNat (nat_lit 0))), (.int .i64 (.ofNat (nat_lit 0))), (.int .i64 (.ofNat (nat_lit 0))), (.int .i64 (.ofNat (nat_lit 0))), (.int .i64 (.ofNat (nat_lit 0))), (.str (sb [])), (.str (sb [])), (.str (sb [])), (.str (sb [])), (.int .i64 (.ofNat (nat_lit 0))), (.int .i64 (.ofNat (nat_lit 0))), (.int .i64 (.ofNat (nat_lit 0))), (.int .i64 (.ofNat (nat_lit 0))), (.int .i64 (.ofNat (nat_lit 0))), (.int .i64 (.ofNat (nat_lit 0))), (.int .i64 (.ofNat (nat_lit 0))), (.int .i64 (.ofNat (nat_lit 0))), (.bool false), (.int .i64 (.ofNat (nat_lit 0))), (.int .i64 (.ofNat (nat_lit 0))), (.int .i64 (.ofNat (nat_lit 0))), (.int .i64 (.ofNat (nat_lit 0))), (.int .i64 (.ofNat (nat_lit 0))), (.int .i64 (.ofNat (nat_lit 0))), (.int .i64 (.ofNat (nat_lit 0))), (.str (sb []))] [(0, 1), (3, 2), (5, 2), (22, 21)] [(.int .i64 (.ofNat (nat_lit 7))), x138, x140, x141]) fun x142 =>
  bndC (noF [x0, x136, x142] h) fun x143 h =>
  ret1 (.tuple []) h
noncomputable def f140_3 (x0 : V) (x3 : V) (x4 : V) (x75 : V) (x77 : V) (x79 : V) (h : HT) : Option J := tstv x79 (bndV (rLdN h 51 x3) fun x81 =>
  bndV (rLdN h 21 x4) fun x82 =>
  bndC (f214 [x0, x81, x82, x75] h) fun x84 h =>
  ret1 (.tuple []) h)
  (bndV (rEql x77 (.int .i64 (.ofNat (nat_lit 3)))) fun x86 =>
  tstv x86 ((f140_1 x0 x3 x4 x75 h))
  (bndV (rEql x77 (.int .i64 (.ofNat (nat_lit 6)))) fun x119 =>
  tstv x119 (bndV (rFa 1 x4) fun x120 =>
  bndV (rLdN h 2 x120) fun x121 =>
  bndV (rFa 5 x3) fun x122 =>
  bndV (rLdN h 2 x122) fun x123 =>
  bndV (kEqF true [.i, .i] [x121, x123]) fun x124 =>
  (f140_2 x0 x3 x4 x124 h))
  (ret1 (.tuple []) h)))
noncomputable def f140_4 (x0 : V) (x3 : V) (x4 : V) (x61 : V) (h : HT) : Option J := bndJ (tstv x61 (bndV (rFa 3 x3) fun x63 =>
  bndV (rLdN h 2 x63) fun x64 =>
  bndC (noF [x0, x64] h) fun x65 h =>
  some ⟨0, [], h⟩)
  (some ⟨0, [], h⟩))
  fun j vs h => bndV (rFa 0 x4) fun x66 =>
  bndV (rLd h x66) fun x67 =>
  bndV (rNeq x67 (.int .i64 (.ofNat (nat_lit 0)))) fun x68 =>
  bndC (gsel x68 true (retV (rFa 3 x4) h) h) fun x70 h =>
  bndC (gsel x68 true (retV (rLdN h 2 x70) h) h) fun x71 h =>
  bndC (gsel x68 true (retV (rFa 5 x3) h) h) fun x72 h =>
  bndC (gsel x68 true (retV (rLdN h 2 x72) h) h) fun x73 h =>
  bndC (gsel x68 true (retV (kEqF false [.i, .i] [x71, x73]) h) h) fun x74 h =>
  bndV (rPick x68 x74 (.bool false)) fun x75 =>
  bndV (rFa 0 x3) fun x76 =>
  bndV (rLd h x76) fun x77 =>
  bndV (rEql x77 (.int .i64 (.ofNat (nat_lit 1)))) fun x79 =>
  (f140_3 x0 x3 x4 x75 x77 x79 h)
noncomputable def f140_5 (x0 : V) (x3 : V) (x4 : V) (x37 : V) (h : HT) : Option J := tstv x37 (bndV (rFa 1 x3) fun x39 =>
  bndV (rLd h x39) fun x40 =>
  bndV (rFa 3 x3) fun x41 =>
  bndV (rLdN h 2 x41) fun x42 =>
  bndV (rFa 1 x4) fun x43 =>
  bndV (rLdN h 2 x43) fun x44 =>
  bndV (rBld [(.int .i64 (.ofNat (nat_lit 0))), (.int .i64 (.ofNat (nat_lit 0))), (.int .i64 (.ofNat (nat_lit 0))), (.int .i64 (.ofNat (nat_lit 0))), (.int .i64 (.ofNat (nat_lit 0))), (.int .i64 (.ofNat (nat_lit 0))), (.int .i64 (.ofNat (nat_lit 0))), (.int .i64 (.ofNat (nat_lit 0))), (.int .i64 (.ofNat (nat_lit 0))), (.int .i64 (.ofNat (nat_lit 0))), (.str (sb [])), (.str (sb [])), (.str (sb [])), (.str (sb [])), (.int .i64 (.ofNat (nat_lit 0))), (.int .i64 (.ofNat (nat_lit 0))), (.int .i64 (.ofNat (nat_lit 0))), (.int .i64 (.ofNat (nat_lit 0))), (.int .i64 (.ofNat (nat_lit 0))), (.int .i64 (.ofNat (nat_lit 0))), (.int .i64 (.ofNat (nat_lit 0))), (.int .i64 (.ofNat (nat_lit 0))), (.int .i64 (.ofNat (nat_lit 0))), (.int .i64 (.ofNat (nat_lit 0))), (.int .i64 (.ofNat (nat_lit 0))), (.int .i64 (.ofNat (nat_lit 0))), (.int .i64 (.ofNat (nat_lit 0))), (.int .i64 (.ofNat (nat_lit 0))), (.int .i64 (.ofNat (nat_lit 0))), (.int .i64 (.ofNat (nat_lit 0))), (.str (sb [])), (.str (sb [])), (.str (sb [])), (.str (sb [])), (.int .i64 (.ofNat (nat_lit 0))), (.int .i64 (.ofNat (nat_lit 0))), (.int .i64 (.ofNat (nat_lit 0))), (.int .i64 (.ofNat (nat_lit 0))), (.int .i64 (.ofNat (nat_lit 0))), (.int .i64 (.ofNat (nat_lit 0))), (.int .i64 (.ofNat (nat_lit 0))), (.int .i64 (.ofNat (nat_lit 0))), (.bool false), (.int .i64 (.ofNat (nat_lit 0))), (.int .i64 (.ofNat (nat_lit 0))), (.int .i64 (.ofNat (nat_lit 0))), (.int .i64 (.ofNat (nat_lit 0))), (.int .i64 (.ofNat (nat_lit 0))), (.int .i64 (.ofNat (nat_lit 0))), (.int .i64 (.ofNat (nat_lit 0))), (.str (sb []))] [(0, 1), (3, 2), (5, 2)] [(.int .i64 (.ofNat (nat_lit 8))), x42, x44]) fun x45 =>
  bndC (noF [x0, x40, x45] h) fun x46 h =>
  ret1 (.tuple []) h)
  (bndV (rFa 3 x3) fun x48 =>
  bndV (rLdN h 2 x48) fun x49 =>
  bndC (f212 [x0, x49] h) fun x50 h =>
  bndV (kEqN true [x50, (.ptr none)]) fun x52 =>
  bndC (gsel x52 true (retV (kMov [x50]) h) h) fun x54 h =>
  bndC (gsel x52 true (retV (rNilc x54) h) h) fun x55 h =>
  bndC (gsel x52 true (retV (rFa 3 x55) h) h) fun x56 h =>
  bndC (gsel x52 true (retV (rLdN h 2 x56) h) h) fun x57 h =>
  bndC (gsel x52 true (retV (rFa 5 x3) h) h) fun x58 h =>
  bndC (gsel x52 true (retV (rLdN h 2 x58) h) h) fun x59 h =>
  bndC (gsel x52 true (f209 [x57, x59] h) h) fun x60 h =>
  bndV (rPick x52 x60 (.bool false)) fun x61 =>
  (f140_4 x0 x3 x4 x61 h))
noncomputable def f140_6 (x0 : V) (x3 : V) (x4 : V) (x21 : V) (h : HT) : Option J := tstv x21 (bndV (rFa 1 x3) fun x23 =>
  bndV (rLd h x23) fun x24 =>
  bndV (rFa 3 x3) fun x25 =>
  bndV (rLdN h 2 x25) fun x26 =>
  bndV (rFa 5 x4) fun x27 =>
  bndV (rLdN h 7 x27) fun x28 =>
  bndV (rFa 12 x4) fun x29 =>
  bndV (rLdN h 8 x29) fun x30 =>
  bndV (rBld [(.int .i64 (.ofNat (nat_lit 0))), (.int .i64 (.ofNat (nat_lit 0))), (.int .i64 (.ofNat (nat_lit 0))), (.int .i64 (.ofNat (nat_lit 0))), (.int .i64 (.ofNat (nat_lit 0))), (.int .i64 (.ofNat (nat_lit 0))), (.int .i64 (.ofNat (nat_lit 0))), (.int .i64 (.ofNat (nat_lit 0))), (.int .i64 (.ofNat (nat_lit 0))), (.int .i64 (.ofNat (nat_lit 0))), (.str (sb [])), (.str (sb [])), (.str (sb [])), (.str (sb [])), (.int .i64 (.ofNat (nat_lit 0))), (.int .i64 (.ofNat (nat_lit 0))), (.int .i64 (.ofNat (nat_lit 0))), (.int .i64 (.ofNat (nat_lit 0))), (.int .i64 (.ofNat (nat_lit 0))), (.int .i64 (.ofNat (nat_lit 0))), (.int .i64 (.ofNat (nat_lit 0))), (.int .i64 (.ofNat (nat_lit 0))), (.int .i64 (.ofNat (nat_lit 0))), (.int .i64 (.ofNat (nat_lit 0))), (.int .i64 (.ofNat (nat_lit 0))), (.int .i64 (.ofNat (nat_lit 0))), (.int .i64 (.ofNat (nat_lit 0))), (.int .i64 (.ofNat (nat_lit 0))), (.int .i64 (.ofNat (nat_lit 0))), (.int .i64 (.ofNat (nat_lit 0))), (.str (sb [])), (.str (sb [])), (.str (sb [])), (.str (sb [])), (.int .i64 (.ofNat (nat_lit 0))), (.int .i64 (.ofNat (nat_lit 0))), (.int .i64 (.ofNat (nat_lit 0))), (.int .i64 (.ofNat (nat_lit 0))), (.int .i64 (.ofNat (nat_lit 0))), (.int .i64 (.ofNat (nat_lit 0))), (.int .i64 (.ofNat (nat_lit 0))), (.int .i64 (.ofNat (nat_lit 0))), (.bool false), (.int .i64 (.ofNat (nat_lit 0))), (.int .i64 (.ofNat (nat_lit 0))), (.int .i64 (.ofNat (nat_lit 0))), (.int .i64 (.ofNat (nat_lit 0))), (.int .i64 (.ofNat (nat_lit 0))), (.int .i64 (.ofNat (nat_lit 0))), (.int .i64 (.ofNat (nat_lit 0))), (.str (sb []))] [(0, 1), (3, 2), (7, 7), (14, 8)] [(.int .i64 (.ofNat (nat_lit 5))), x26, x28, x30]) fun x31 =>
  bndC (noF [x0, x24, x31] h) fun x32 h =>
  ret1 (.tuple []) h)
  (bndV (rFa 5 x3) fun x33 =>
  bndV (rLdN h 2 x33) fun x34 =>
  bndV (rFa 1 x4) fun x35 =>
  bndV (rLdN h 2 x35) fun x36 =>
  bndC (f209 [x34, x36] h) fun x37 h =>
  (f140_5 x0 x3 x4 x37 h))
noncomputable def f140_7 (x0 : V) (x1 : V) (h : HT) : Option J := bndN (rBox x1) h fun x3 h =>
  bndV (rNilc x0) fun x11 =>
  bndV (rFa 2 x11) fun x12 =>
  bndV (rLd h x12) fun x13 =>
  bndV (rFa 3 x3) fun x14 =>
  bndV (rLdN h 2 x14) fun x15 =>
  bndN (rAlloc [(.int .i64 (.ofNat (nat_lit 0))), (.int .i64 (.ofNat (nat_lit 0))), (.int .i64 (.ofNat (nat_lit 0))), (.int .i64 (.ofNat (nat_lit 0))), (.int .i64 (.ofNat (nat_lit 0))), (.int .i64 (.ofNat (nat_lit 0))), (.int .i64 (.ofNat (nat_lit 0))), (.int .i64 (.ofNat (nat_lit 0))), (.str (sb [])), (.str (sb [])), (.str (sb [])), (.str (sb [])), (.int .i64 (.ofNat (nat_lit 0))), (.int .i64 (.ofNat (nat_lit 0))), (.int .i64 (.ofNat (nat_lit 0))), (.int .i64 (.ofNat (nat_lit 0))), (.int .i64 (.ofNat (nat_lit 0))), (.int .i64 (.ofNat (nat_lit 0))), (.int .i64 (.ofNat (nat_lit 0))), (.int .i64 (.ofNat (nat_lit 0))), (.bool false)] []) h fun x4 h =>
  bndC (f205 [x13, x15] h) fun x16 h =>
  bndV (rExt 0 x16) fun x17 =>
  bndV (rExt 1 x16) fun x18 =>
  bndE (rSt h 21 x4 x17) h fun _ h =>
  bndV (rFa 0 x4) fun x19 =>
  bndV (rLd h x19) fun x20 =>
  bndV (rEql x20 (.int .i64 (.ofNat (nat_lit 3)))) fun x21 =>
  (f140_6 x0 x3 x4 x21 h)
noncomputable def f140 (vs : List V) (h : HT) : Option J := unc2 vs fun x0 x1 =>
  (f140_7 x0 x1 h)

/- (*concord/core.Core).told -/
noncomputable def l141 : List (Nat × (List V → HT → Option J)) := [(127, f127), (205, f205), (213, f213)]
noncomputable def t141 : Fns := tab l141
noncomputable def f141_0 (x0 : V) (x3 : V) (x4 : V) (x20 : V) (h : HT) : Option J := bndV (rLdN h 2 x20) fun x21 =>
  bndC (f213 [x0, x21] h) fun x22 h =>
  bndV (rFa 3 x3) fun x24 =>
  bndV (rLdN h 2 x24) fun x25 =>
  bndV (rFa 1 x4) fun x26 =>
  bndV (rLdN h 2 x26) fun x27 =>
  bndV (rFa 3 x4) fun x28 =>
  bndV (rLdN h 2 x28) fun x29 =>
  bndV (rFa 7 x3) fun x30 =>
  bndV (rLdN h 7 x30) fun x31 =>
  bndV (rFa 14 x3) fun x32 =>
  bndV (rLdN h 8 x32) fun x33 =>
  bndV (rBld [(.int .i64 (.ofNat (nat_lit 0))), (.int .i64 (.ofNat (nat_lit 0))), (.int .i64 (.ofNat (nat_lit 0))), (.int .i64 (.ofNat (nat_lit 0))), (.int .i64 (.ofNat (nat_lit 0))), (.int .i64 (.ofNat (nat_lit 0))), (.int .i64 (.ofNat (nat_lit 0))), (.int .i64 (.ofNat (nat_lit 0))), (.str (sb [])), (.str (sb [])), (.str (sb [])), (.str (sb [])), (.int .i64 (.ofNat (nat_lit 0))), (.int .i64 (.ofNat (nat_lit 0))), (.int .i64 (.ofNat (nat_lit 0))), (.int .i64 (.ofNat (nat_lit 0))), (.int .i64 (.ofNat (nat_lit 0))), (.int .i64 (.ofNat (nat_lit 0))), (.int .i64 (.ofNat (nat_lit 0))), (.int .i64 (.ofNat (nat_lit 0))), (.bool false)] [(0, 1), (1, 2), (3, 2), (5, 7), (12, 8)] [(.int .i64 (.ofNat (nat_lit 3))), x27, x29, x31, x33]) fun x34 =>
  bndC (f127 [x0, x25, x34] h) fun x35 h =>
  ret1 (.tuple []) h
noncomputable def f141_1 (x0 : V) (x3 : V) (x9 : V) (h : HT) : Option J := bndV (rLd h x9) fun x10 =>
  bndV (rFa 3 x3) fun x11 =>
  bndV (rLdN h 2 x11) fun x12 =>
  bndN (rAlloc [(.int .i64 (.ofNat (nat_lit 0))), (.int .i64 (.ofNat (nat_lit 0))), (.int .i64 (.ofNat (nat_lit 0))), (.int .i64 (.ofNat (nat_lit 0))), (.int .i64 (.ofNat (nat_lit 0))), (.int .i64 (.ofNat (nat_lit 0))), (.int .i64 (.ofNat (nat_lit 0))), (.int .i64 (.ofNat (nat_lit 0))), (.str (sb [])), (.str (sb [])), (.str (sb [])), (.str (sb [])), (.int .i64 (.ofNat (nat_lit 0))), (.int .i64 (.ofNat (nat_lit 0))), (.int .i64 (.ofNat (nat_lit 0))), (.int .i64 (.ofNat (nat_lit 0))), (.int .i64 (.ofNat (nat_lit 0))), (.int .i64 (.ofNat (nat_lit 0))), (.int .i64 (.ofNat (nat_lit 0))), (.int .i64 (.ofNat (nat_lit 0))), (.bool false)] []) h fun x4 h =>
  bndC (f205 [x10, x12] h) fun x13 h =>
  bndV (rExt 0 x13) fun x14 =>
  bndV (rExt 1 x13) fun x15 =>
  bndE (rSt h 21 x4 x14) h fun _ h =>
  bndV (rFa 0 x4) fun x16 =>
  bndV (rLd h x16) fun x17 =>
  bndV (rEql x17 (.int .i64 (.ofNat (nat_lit 3)))) fun x18 =>
  tstv x18 (ret1 (.tuple []) h)
  (bndV (rFa 3 x3) fun x20 =>
  (f141_0 x0 x3 x4 x20 h))
noncomputable def f141 (vs : List V) (h : HT) : Option J := unc2 vs fun x0 x1 =>
  bndN (rBox x1) h fun x3 h =>
  bndV (rNilc x0) fun x8 =>
  bndV (rFa 2 x8) fun x9 =>
  (f141_1 x0 x3 x9 h)

/- (*concord/core.Core).commit -/
noncomputable def l218 : List (Nat × (List V → HT → Option J)) := [(127, f127), (205, f205), (207, f207), (213, f213)]
noncomputable def t218 : Fns := tab l218
noncomputable def f218_0 (x0 : V) (x5 : V) (x6 : V) (x7 : V) (x8 : V) (x23 : V) (x25 : V) (h : HT) : Option J := bndV (rFa 3 x8) fun x26 =>
  bndV (rLdN h 2 x26) fun x27 =>
  bndV (rLdN h 7 x6) fun x28 =>
  bndV (rLdN h 8 x7) fun x29 =>
  bndV (rBld [(.int .i64 (.ofNat (nat_lit 0))), (.int .i64 (.ofNat (nat_lit 0))), (.int .i64 (.ofNat (nat_lit 0))), (.int .i64 (.ofNat (nat_lit 0))), (.int .i64 (.ofNat (nat_lit 0))), (.int .i64 (.ofNat (nat_lit 0))), (.int .i64 (.ofNat (nat_lit 0))), (.int .i64 (.ofNat (nat_lit 0))), (.str (sb [])), (.str (sb [])), (.str (sb [])), (.str (sb [])), (.int .i64 (.ofNat (nat_lit 0))), (.int .i64 (.ofNat (nat_lit 0))), (.int .i64 (.ofNat (nat_lit 0))), (.int .i64 (.ofNat (nat_lit 0))), (.int .i64 (.ofNat (nat_lit 0))), (.int .i64 (.ofNat (nat_lit 0))), (.int .i64 (.ofNat (nat_lit 0))), (.int .i64 (.ofNat (nat_lit 0))), (.bool false)] [(0, 1), (1, 2), (3, 2), (5, 7), (12, 8)] [(.int .i64 (.ofNat (nat_lit 3))), x25, x27, x28, x29]) fun x30 =>
  bndC (f127 [x0, x23, x30] h) fun x31 h =>
  tstv x31 (bndV (rLdN h 2 x5) fun x33 =>
  bndV (rLdN h 7 x6) fun x34 =>
  bndV (rLdN h 8 x7) fun x35 =>
  bndV (rBld [(.int .i64 (.ofNat (nat_lit 0))), (.int .i64 (.ofNat (nat_lit 0))), (.int .i64 (.ofNat (nat_lit 0))), (.int .i64 (.ofNat (nat_lit 0))), (.int .i64 (.ofNat (nat_lit 0))), (.int .i64 (.ofNat (nat_lit 0))), (.int .i64 (.ofNat (nat_lit 0))), (.int .i64 (.ofNat (nat_lit 0))), (.int .i64 (.ofNat (nat_lit 0))), (.int .i64 (.ofNat (nat_lit 0))), (.str (sb [])), (.str (sb [])), (.str (sb [])), (.str (sb [])), (.int .i64 (.ofNat (nat_lit 0))), (.int .i64 (.ofNat (nat_lit 0))), (.int .i64 (.ofNat (nat_lit 0))), (.int .i64 (.ofNat (nat_lit 0))), (.int .i64 (.ofNat (nat_lit 0))), (.int .i64 (.ofNat (nat_lit 0))), (.int .i64 (.ofNat (nat_lit 0))), (.int .i64 (.ofNat (nat_lit 0))), (.int .i64 (.ofNat (nat_lit 0))), (.int .i64 (.ofNat (nat_lit 0))), (.int .i64 (.ofNat (nat_lit 0))), (.int .i64 (.ofNat (nat_lit 0))), (.int .i64 (.ofNat (nat_lit 0))), (.int .i64 (.ofNat (nat_lit 0))), (.int .i64 (.ofNat (nat_lit 0))), (.int .i64 (.ofNat (nat_lit 0))), (.str (sb [])), (.str (sb [])), (.str (sb [])), (.str (sb [])), (.int .i64 (.ofNat (nat_lit 0))), (.int .i64 (.ofNat (nat_lit 0))), (.int .i64 (.ofNat (nat_lit 0))), (.int .i64 (.ofNat (nat_lit 0))), (.int .i64 (.ofNat (nat_lit 0))), (.int .i64 (.ofNat (nat_lit 0))), (.int .i64 (.ofNat (nat_lit 0))), (.int .i64 (.ofNat (nat_lit 0))), (.bool false), (.int .i64 (.ofNat (nat_lit 0))), (.int .i64 (.ofNat (nat_lit 0))), (.int .i64 (.ofNat (nat_lit 0))), (.int .i64 (.ofNat (nat_lit 0))), (.int .i64 (.ofNat (nat_lit 0))), (.int .i64 (.ofNat (nat_lit 0))), (.int .i64 (.ofNat (nat_lit 0))), (.str (sb []))] [(0, 1), (3, 2), (7, 7), (14, 8)] [(.int .i64 (.ofNat (nat_lit 5))), x33, x34, x35]) fun x36 =>
  bndV (rBld [(.int .i64 (.ofNat (nat_lit 0))), (.int .i64 (.ofNat (nat_lit 0))), (.int .i64 (.ofNat (nat_lit 0))), (.int .i64 (.ofNat (nat_lit 0))), (.int .i64 (.ofNat (nat_lit 0))), (.int .i64 (.ofNat (nat_lit 0))), (.int .i64 (.ofNat (nat_lit 0)))] [] []) fun x37 =>
  bndC (f207 [x0, x36, x37] h) fun x38 h =>
  ret1 (.tuple []) h)
  (ret1 (.tuple []) h)
noncomputable def f218_1 (x0 : V) (x5 : V) (x6 : V) (x7 : V) (h : HT) : Option J := bndV (rLdN h 2 x5) fun x11 =>
  bndC (f213 [x0, x11] h) fun x12 h =>
  bndV (rNilc x0) fun x15 =>
  bndV (rFa 2 x15) fun x16 =>
  bndV (rLd h x16) fun x17 =>
  bndV (rLdN h 2 x5) fun x18 =>
  bndN (rAlloc [(.int .i64 (.ofNat (nat_lit 0))), (.int .i64 (.ofNat (nat_lit 0))), (.int .i64 (.ofNat (nat_lit 0))), (.int .i64 (.ofNat (nat_lit 0))), (.int .i64 (.ofNat (nat_lit 0))), (.int .i64 (.ofNat (nat_lit 0))), (.int .i64 (.ofNat (nat_lit 0))), (.int .i64 (.ofNat (nat_lit 0))), (.str (sb [])), (.str (sb [])), (.str (sb [])), (.str (sb [])), (.int .i64 (.ofNat (nat_lit 0))), (.int .i64 (.ofNat (nat_lit 0))), (.int .i64 (.ofNat (nat_lit 0))), (.int .i64 (.ofNat (nat_lit 0))), (.int .i64 (.ofNat (nat_lit 0))), (.int .i64 (.ofNat (nat_lit 0))), (.int .i64 (.ofNat (nat_lit 0))), (.int .i64 (.ofNat (nat_lit 0))), (.bool false)] []) h fun x8 h =>
  bndC (f205 [x17, x18] h) fun x19 h =>
  bndV (rExt 0 x19) fun x20 =>
  bndV (rExt 1 x19) fun x21 =>
  bndE (rSt h 21 x8 x20) h fun _ h =>
  bndV (rLdN h 2 x5) fun x23 =>
  bndV (rFa 1 x8) fun x24 =>
  bndV (rLdN h 2 x24) fun x25 =>
  (f218_0 x0 x5 x6 x7 x8 x23 x25 h)
noncomputable def f218 (vs : List V) (h : HT) : Option J := unc4 vs fun x0 x1 x2 x3 vs =>
  bndN (rBox x1) h fun x5 h =>
  bndN (rBox x2) h fun x6 h =>
  bndN (rBox x3) h fun x7 h =>
  (f218_1 x0 x5 x6 x7 h)

/- concord/quorum.Fast -/
noncomputable def l329 : List (Nat × (List V → HT → Option J)) := []
noncomputable def t329 : Fns := tab l329

noncomputable def f329 (vs : List V) (h : HT) : Option J := unc1 vs fun x0 =>
  bndV (rSub x0 (.int .i64 (.ofNat (nat_lit 1)))) fun x4 =>
  ret1 x4 h

/- concord/quorum.Pre -/
noncomputable def l277 : List (Nat × (List V → HT → Option J)) := [(329, f329)]
noncomputable def t277 : Fns := tab l277
noncomputable def f277_0 (rc : List V → HT → Option J) (x3 : V) (x7 : V) (x12 : V) (x17 : V) (h : HT) : Option J := bndV (rIaS 8 x3 x17) fun x19 =>
  bndV (rLdN h 8 x19) fun x20 =>
  bndN (rAlloc [(.int .i64 (.ofNat (nat_lit 0))), (.int .i64 (.ofNat (nat_lit 0))), (.int .i64 (.ofNat (nat_lit 0))), (.int .i64 (.ofNat (nat_lit 0))), (.int .i64 (.ofNat (nat_lit 0))), (.int .i64 (.ofNat (nat_lit 0))), (.int .i64 (.ofNat (nat_lit 0))), (.int .i64 (.ofNat (nat_lit 0)))] []) h fun x14 h =>
  bndE (rSt h 8 x14 x20) h fun _ h =>
  bndV (rLdN h 8 x14) fun x21 =>
  bndV (rLdN h 8 x7) fun x22 =>
  bndV (kEqF false [.i, .i, .i, .i, .i, .i, .i, .i] [x21, x22]) fun x23 =>
  bndJ (tstv x23 (bndV (rAdd x12 (.int .i64 (.ofNat (nat_lit 1)))) fun x25 =>
  some ⟨0, [x25], h⟩)
  (some ⟨0, [x12], h⟩))
  fun j vs h => unc1 vs fun x12 =>
  bndV (rAdd x17 (.int .i64 (.ofNat (nat_lit 1)))) fun x26 =>
  rc [x12, x26] h
noncomputable def f277_1 (x3 : V) (x7 : V) (x11 : V) (x41 : V) (x48 : V) (x52 : V) (h : HT) : Option J := bndC (gsel x48 true (retV (rLss x52 (.int .i64 (.ofNat (nat_lit 2)))) h) h) fun x53 h =>
  bndC (gsel x41 false (retV (rPick x48 x53 (.bool false)) h) h) fun x54 h =>
  bndV (rPick x41 (.bool true) x54) fun x55 =>
  tstv x55 (bndV (rBld [(.int .i64 (.ofNat (nat_lit 0))), (.int .i64 (.ofNat (nat_lit 0))), (.int .i64 (.ofNat (nat_lit 0))), (.int .i64 (.ofNat (nat_lit 0))), (.int .i64 (.ofNat (nat_lit 0))), (.int .i64 (.ofNat (nat_lit 0))), (.int .i64 (.ofNat (nat_lit 0))), (.int .i64 (.ofNat (nat_lit 0)))] [] []) fun x56 =>
  bndE (rSt h 8 x11 x56) h fun _ h =>
  bndV (qLd h (some 8) [x11]) fun x900000 =>
  ret1 (.tuple [(.int .i64 (.ofNat (nat_lit 0))), x900000]) h)
  (bndV (rLdN h 8 x7) fun x57 =>
  bndN (rBsl 8 1 [(.int .i64 (.ofNat (nat_lit 0))), (.int .i64 (.ofNat (nat_lit 0))), (.int .i64 (.ofNat (nat_lit 0))), (.int .i64 (.ofNat (nat_lit 0))), (.int .i64 (.ofNat (nat_lit 0))), (.int .i64 (.ofNat (nat_lit 0))), (.int .i64 (.ofNat (nat_lit 0))), (.int .i64 (.ofNat (nat_lit 0)))] [(0, 8)] [x57]) h fun x58 h =>
  bndE (dApp h 8 64 [x58, x3]) h fun x60 h =>
  bndC (noF [x60] h) fun x61 h =>
  bndE (rSt h 8 x11 x61) h fun _ h =>
  bndV (qLd h (some 8) [x11]) fun x900000 =>
  ret1 (.tuple [(.int .i64 (.ofNat (nat_lit 2))), x900000]) h)
noncomputable def f277_2 (x0 : V) (x1 : V) (x3 : V) (x4 : V) (x7 : V) (x11 : V) (x12 : V) (h : HT) : Option J := bndV (rLenS x3) fun x37 =>
  bndC (noF [x0] h) fun x39 h =>
  bndV (rSub x39 (.int .i64 (.ofNat (nat_lit 1)))) fun x40 =>
  bndV (rLss x37 x40) fun x41 =>
  bndC (gsel x41 false (retV (kMov [x1]) h) h) fun x43 h =>
  bndC (gsel x41 false (retV (kMov [x43]) h) h) fun x44 h =>
  bndC (gsel x44 true (retV (kMov [x4]) h) h) fun x45 h =>
  bndC (gsel x44 true (retV (rNot x45) h) h) fun x46 h =>
  bndC (gsel x41 false (retV (rPick x44 x46 (.bool false)) h) h) fun x47 h =>
  bndC (gsel x41 false (retV (kMov [x47]) h) h) fun x48 h =>
  bndC (gsel x48 true (retV (kMov [x3]) h) h) fun x49 h =>
  bndC (gsel x48 true (retV (rLenS x49) h) h) fun x50 h =>
  bndC (gsel x48 true (retV (kMov [x12]) h) h) fun x51 h =>
  bndC (gsel x48 true (retV (rSub x50 x51) h) h) fun x52 h =>
  (f277_1 x3 x7 x11 x41 x48 x52 h)
noncomputable def f277_3 (x0 : V) (x1 : V) (x3 : V) (x4 : V) (x7 : V) (x11 : V) (x16 : V) (h : HT) : Option J := bndJ (loopF (fun rc vs h => unc2 vs fun x12 x17 =>
  bndV (rLss x17 x16) fun x18 =>
  tstv x18 ((f277_0 rc x3 x7 x12 x17 h))
  (some ⟨0, [x12], h⟩)) 1000000 [(.int .i64 (.ofNat (nat_lit 0))), (.int .i64 (.ofNat (nat_lit 0)))] h)
  fun j vs h => unc1 vs fun x12 =>
  bndC (gsel x1 true (retV (kMov [x12]) h) h) fun x29 h =>
  bndC (gsel x1 true (retV (kMov [x0]) h) h) fun x30 h =>
  bndC (gsel x1 true (f329 [x30] h) h) fun x31 h =>
  bndC (gsel x1 true (retV (rSub x31 (.int .i64 (.ofNat (nat_lit 1)))) h) h) fun x32 h =>
  bndC (gsel x1 true (retV (rGeq x29 x32) h) h) fun x33 h =>
  bndV (rPick x1 x33 (.bool false)) fun x34 =>
  tstv x34 (bndV (rLdN h 8 x7) fun x35 =>
  bndE (rSt h 8 x11 x35) h fun _ h =>
  bndV (qLd h (some 8) [x11]) fun x900000 =>
  ret1 (.tuple [(.int .i64 (.ofNat (nat_lit 1))), x900000]) h)
  ((f277_2 x0 x1 x3 x4 x7 x11 x12 h))
noncomputable def f277 (vs : List V) (h : HT) : Option J := unc4 vs fun x0 x1 x2 x3 vs =>
  unc1 vs fun x4 =>
  bndN (rBox x2) h fun x7 h =>
  bndN (rAlloc [(.int .i64 (.ofNat (nat_lit 0))), (.int .i64 (.ofNat (nat_lit 0))), (.int .i64 (.ofNat (nat_lit 0))), (.int .i64 (.ofNat (nat_lit 0))), (.int .i64 (.ofNat (nat_lit 0))), (.int .i64 (.ofNat (nat_lit 0))), (.int .i64 (.ofNat (nat_lit 0))), (.int .i64 (.ofNat (nat_lit 0)))] []) h fun x11 h =>
  bndV (rLenS x3) fun x16 =>
  (f277_3 x0 x1 x3 x4 x7 x11 x16 h)

/- (*concord/core.Core).weigh -/
noncomputable def l216 : List (Nat × (List V → HT → Option J)) := [(218, f218), (277, f277)]
noncomputable def t216 : Fns := tab l216
noncomputable def f216_0 (x0 : V) (x1 : V) (x8 : V) (x28 : V) (x32 : V) (h : HT) : Option J := tstv x32 (bndV (rNilc x1) fun x35 =>
  bndV (rFa 0 x35) fun x36 =>
  bndV (rLdN h 2 x36) fun x37 =>
  bndV (rNilc x1) fun x39 =>
  bndV (rFa 6 x39) fun x40 =>
  bndV (rLdN h 7 x40) fun x41 =>
  bndV (rLdN h 8 x8) fun x42 =>
  bndC (f218 [x0, x37, x41, x42] h) fun x43 h =>
  ret1 (.bool true) h)
  (bndV (rEql x28 (.int .i64 (.ofNat (nat_lit 2)))) fun x45 =>
  tstv x45 (bndV (rNilc x1) fun x49 =>
  bndV (rFa 6 x49) fun x50 =>
  bndV (rLdN h 7 x50) fun x51 =>
  bndV (rLdN h 8 x8) fun x52 =>
  bndC (noF [x0, x1, x51, x52] h) fun x53 h =>
  ret1 (.bool true) h)
  (ret1 (.bool false) h))
noncomputable def f216_1 (x0 : V) (x1 : V) (x2 : V) (x13 : V) (x15 : V) (h : HT) : Option J := bndV (rFa 5 x15) fun x16 =>
  bndV (rLd h x16) fun x17 =>
  bndV (rNilc x1) fun x19 =>
  bndV (rFa 13 x19) fun x20 =>
  bndV (rLdN h 8 x20) fun x21 =>
  bndV (rNilc x1) fun x23 =>
  bndV (rFa 28 x23) fun x24 =>
  bndV (rLd h x24) fun x25 =>
  bndN (rAlloc [(.int .i64 (.ofNat (nat_lit 0))), (.int .i64 (.ofNat (nat_lit 0))), (.int .i64 (.ofNat (nat_lit 0))), (.int .i64 (.ofNat (nat_lit 0))), (.int .i64 (.ofNat (nat_lit 0))), (.int .i64 (.ofNat (nat_lit 0))), (.int .i64 (.ofNat (nat_lit 0))), (.int .i64 (.ofNat (nat_lit 0)))] []) h fun x8 h =>
  bndC (f277 [x13, x17, x21, x25, x2] h) fun x27 h =>
  bndV (rExt 0 x27) fun x28 =>
  bndV (rExt 1 x27) fun x29 =>
  bndE (rSt h 8 x8 x29) h fun _ h =>
  bndV (rEql x28 (.int .i64 (.ofNat (nat_lit 1)))) fun x32 =>
  (f216_0 x0 x1 x8 x28 x32 h)
noncomputable def f216 (vs : List V) (h : HT) : Option J := unc3 vs fun x0 x1 x2 =>
  bndV (rNilc x0) fun x11 =>
  bndV (rFa 0 x11) fun x12 =>
  bndV (rLd h x12) fun x13 =>
  bndV (rNilc x1) fun x15 =>
  (f216_1 x0 x1 x2 x13 x15 h)

/- (*concord/core.Core).answered -/
noncomputable def l143 : List (Nat × (List V → HT → Option J)) := [(212, f212), (216, f216)]
noncomputable def t143 : Fns := tab l143
noncomputable def f143_0 (x0 : V) (x9 : V) (x93 : V) (x94 : V) (x95 : V) (x100 : V) (h : HT) : Option J := chk1 (sameE (rLd h x93) x94) (bndV (rGeq x95 x100) fun x101 =>
  tstv x101 (bndV (rNilc x9) fun x104 =>
  bndV (rFa 0 x104) fun x105 =>
  bndV (rLdN h 2 x105) fun x106 =>
  bndV (rNilc x9) fun x108 =>
  bndV (rFa 6 x108) fun x109 =>
  bndV (rLdN h 7 x109) fun x110 =>
  bndV (rNilc x9) fun x112 =>
  bndV (rFa 13 x112) fun x113 =>
  bndV (rLdN h 8 x113) fun x114 =>
  bndC (noF [x0, x106, x110, x114] h) fun x115 h =>
  ret1 (.tuple []) h)
  (ret1 (.tuple []) h))
noncomputable def f143_1 (x0 : V) (x3 : V) (x9 : V) (h : HT) : Option J := bndV (rNilc x9) fun x58 =>
  bndV (rFa 29 x58) fun x59 =>
  bndV (rLd h x59) fun x60 =>
  bndV (rFa 1 x3) fun x61 =>
  bndV (rLd h x61) fun x62 =>
  bndV (rFa 22 x3) fun x63 =>
  bndV (rLdN h 21 x63) fun x64 =>
  bndV (rBld [(.int .i64 (.ofNat (nat_lit 0))), (.int .i64 (.ofNat (nat_lit 0))), (.int .i64 (.ofNat (nat_lit 0))), (.int .i64 (.ofNat (nat_lit 0))), (.int .i64 (.ofNat (nat_lit 0))), (.int .i64 (.ofNat (nat_lit 0))), (.int .i64 (.ofNat (nat_lit 0))), (.int .i64 (.ofNat (nat_lit 0))), (.int .i64 (.ofNat (nat_lit 0))), (.str (sb [])), (.str (sb [])), (.str (sb [])), (.str (sb [])), (.int .i64 (.ofNat (nat_lit 0))), (.int .i64 (.ofNat (nat_lit 0))), (.int .i64 (.ofNat (nat_lit 0))), (.int .i64 (.ofNat (nat_lit 0))), (.int .i64 (.ofNat (nat_lit 0))), (.int .i64 (.ofNat (nat_lit 0))), (.int .i64 (.ofNat (nat_lit 0))), (.int .i64 (.ofNat (nat_lit 0))), (.bool false)] [(0, 1), (1, 21)] [x62, x64]) fun x65 =>
  bndN (rBsl 22 1 [(.int .i64 (.ofNat (nat_lit 0))), (.int .i64 (.ofNat (nat_lit 0))), (.int .i64 (.ofNat (nat_lit 0))), (.int .i64 (.ofNat (nat_lit 0))), (.int .i64 (.ofNat (nat_lit 0))), (.int .i64 (.ofNat (nat_lit 0))), (.int .i64 (.ofNat (nat_lit 0))), (.int .i64 (.ofNat (nat_lit 0))), (.int .i64 (.ofNat (nat_lit 0))), (.str (sb [])), (.str (sb [])), (.str (sb [])), (.str (sb [])), (.int .i64 (.ofNat (nat_lit 0))), (.int .i64 (.ofNat (nat_lit 0))), (.int .i64 (.ofNat (nat_lit 0))), (.int .i64 (.ofNat (nat_lit 0))), (.int .i64 (.ofNat (nat_lit 0))), (.int .i64 (.ofNat (nat_lit 0))), (.int .i64 (.ofNat (nat_lit 0))), (.int .i64 (.ofNat (nat_lit 0))), (.bool false)] [(0, 22)] [x65]) h fun x66 h =>
  bndE (dApp h 22 208 [x60, x66]) h fun x67 h =>
  bndV (rNilc x9) fun x68 =>
  bndV (rFa 29 x68) fun x69 =>
  bndE (rSt h 1 x69 x67) h fun _ h =>
  bndC (noF [x0, x9] h) fun x72 h =>
  ret1 (.tuple []) h
noncomputable def f143_2 (x0 : V) (x3 : V) (x9 : V) (x35 : V) (x74 : V) (h : HT) : Option J := tstv x74 (bndV (rNilc x9) fun x77 =>
  bndV (rFa 28 x77) fun x78 =>
  bndV (rLd h x78) fun x79 =>
  bndV (rFa 14 x3) fun x80 =>
  bndV (rLdN h 8 x80) fun x81 =>
  bndN (rBsl 8 1 [(.int .i64 (.ofNat (nat_lit 0))), (.int .i64 (.ofNat (nat_lit 0))), (.int .i64 (.ofNat (nat_lit 0))), (.int .i64 (.ofNat (nat_lit 0))), (.int .i64 (.ofNat (nat_lit 0))), (.int .i64 (.ofNat (nat_lit 0))), (.int .i64 (.ofNat (nat_lit 0))), (.int .i64 (.ofNat (nat_lit 0)))] [(0, 8)] [x81]) h fun x82 h =>
  bndE (dApp h 8 64 [x79, x82]) h fun x83 h =>
  bndV (rNilc x9) fun x84 =>
  bndV (rFa 28 x84) fun x85 =>
  bndE (rSt h 1 x85 x83) h fun _ h =>
  bndC (f216 [x0, x9, (.bool false)] h) fun x88 h =>
  ret1 (.tuple []) h)
  (bndV (rEql x35 (.int .i64 (.ofNat (nat_lit 1)))) fun x90 =>
  tstv x90 (bndV (rNilc x9) fun x92 =>
  bndV (rFa 30 x92) fun x93 =>
  bndV (rLd h x93) fun x94 =>
  bndV (rAdd x94 (.int .i64 (.ofNat (nat_lit 1)))) fun x95 =>
  bndV (rNilc x0) fun x97 =>
  bndV (rFa 0 x97) fun x98 =>
  bndV (rLd h x98) fun x99 =>
  bndC (noF [x99] h) fun x100 h =>
  (f143_0 x0 x9 x93 x94 x95 x100 h))
  ((f143_1 x0 x3 x9 h)))
noncomputable def f143_3 (x0 : V) (x3 : V) (x9 : V) (x35 : V) (h : HT) : Option J := bndV (rFa 1 x3) fun x43 =>
  bndV (rLd h x43) fun x44 =>
  bndV (rNilc x9) fun x45 =>
  bndV (rFa 21 x45) fun x46 =>
  bndV (rIaA 7 1 x46 x44) fun x47 =>
  bndE (rSt h 1 x47 (.int .i64 (.ofNat (nat_lit 1)))) h fun _ h =>
  bndV (rNilc x9) fun x49 =>
  bndV (rFa 30 x49) fun x50 =>
  bndV (rLd h x50) fun x51 =>
  bndV (rAdd x51 (.int .i64 (.ofNat (nat_lit 1)))) fun x52 =>
  bndV (rNilc x9) fun x53 =>
  bndV (rFa 30 x53) fun x54 =>
  bndE (rSt h 1 x54 x52) h fun _ h =>
  bndV (rEql x35 (.int .i64 (.ofNat (nat_lit 0)))) fun x74 =>
  (f143_2 x0 x3 x9 x35 x74 h)
noncomputable def f143_4 (x0 : V) (x3 : V) (x9 : V) (x30 : V) (h : HT) : Option J := tstv x30 (ret1 (.tuple []) h)
  (bndN (kMkM []) h fun x31 h =>
  bndE (dMset h false [.i] [x31, (.int .i64 (.ofNat (nat_lit 2))), (.int .i64 (.ofNat (nat_lit 0)))]) h fun _ h =>
  bndE (dMset h false [.i] [x31, (.int .i64 (.ofNat (nat_lit 4))), (.int .i64 (.ofNat (nat_lit 1)))]) h fun _ h =>
  bndE (dMset h false [.i] [x31, (.int .i64 (.ofNat (nat_lit 7))), (.int .i64 (.ofNat (nat_lit 2)))]) h fun _ h =>
  bndV (rFa 0 x3) fun x33 =>
  bndV (rLd h x33) fun x34 =>
  bndV (kLkp h.heap false [.i] (.int .i64 (.ofNat (nat_lit 0))) false [x31, x34]) fun x35 =>
  bndV (rNilc x9) fun x37 =>
  bndV (rFa 2 x37) fun x38 =>
  bndV (rLd h x38) fun x39 =>
  bndV (rNeq x39 x35) fun x41 =>
  tstv x41 (ret1 (.tuple []) h)
  ((f143_3 x0 x3 x9 x35 h)))
noncomputable def f143_5 (x0 : V) (x3 : V) (x9 : V) (x11 : V) (x15 : V) (h : HT) : Option J := bndC (gsel x11 false (retV (rLdN h 2 x15) h) h) fun x16 h =>
  bndC (gsel x11 false (retV (rFa 5 x3) h) h) fun x17 h =>
  bndC (gsel x11 false (retV (rLdN h 2 x17) h) h) fun x18 h =>
  bndC (gsel x11 false (retV (kEqF true [.i, .i] [x16, x18]) h) h) fun x19 h =>
  bndV (rPick x11 (.bool true) x19) fun x20 =>
  bndC (gsel x20 false (retV (kMov [x9]) h) h) fun x22 h =>
  bndC (gsel x20 false (retV (rFa 1 x3) h) h) fun x23 h =>
  bndC (gsel x20 false (retV (rLd h x23) h) h) fun x24 h =>
  bndC (gsel x20 false (retV (rNilc x22) h) h) fun x25 h =>
  bndC (gsel x20 false (retV (rFa 21 x25) h) h) fun x26 h =>
  bndC (gsel x20 false (retV (rIaA 7 1 x26 x24) h) h) fun x27 h =>
  bndC (gsel x20 false (retV (rLd h x27) h) h) fun x28 h =>
  bndC (gsel x20 false (retV (rNeq x28 (.int .i64 (.ofNat (nat_lit 0)))) h) h) fun x29 h =>
  bndV (rPick x20 (.bool true) x29) fun x30 =>
  (f143_4 x0 x3 x9 x30 h)
noncomputable def f143 (vs : List V) (h : HT) : Option J := unc2 vs fun x0 x1 =>
  bndN (rBox x1) h fun x3 h =>
  bndV (rFa 3 x3) fun x7 =>
  bndV (rLdN h 2 x7) fun x8 =>
  bndC (f212 [x0, x8] h) fun x9 h =>
  bndV (kEqN false [x9, (.ptr none)]) fun x11 =>
  bndC (gsel x11 false (retV (kMov [x9]) h) h) fun x13 h =>
  bndC (gsel x11 false (retV (rNilc x13) h) h) fun x14 h =>
  bndC (gsel x11 false (retV (rFa 3 x14) h) h) fun x15 h =>
  (f143_5 x0 x3 x9 x11 x15 h)

/- (*concord/core.Core).Take -/
noncomputable def l57 : List (Nat × (List V → HT → Option J)) := [(54, f54), (138, f138), (139, f139), (140, f140), (141, f141), (143, f143)]
noncomputable def t57 : Fns := tab l57
noncomputable def f57_0 (x0 : V) (x3 : V) (x69 : V) (h : HT) : Option J := bndV (rEql x69 (.int .i64 (.ofNat (nat_lit 5)))) fun x70 =>
  tstv x70 (bndV (rLdN h 51 x3) fun x72 =>
  bndC (f141 [x0, x72] h) fun x73 h =>
  ret1 (.bool false) h)
  (bndV (rFa 0 x3) fun x75 =>
  bndV (rLd h x75) fun x76 =>
  bndV (rEql x76 (.int .i64 (.ofNat (nat_lit 8)))) fun x77 =>
  tstv x77 (bndV (rLdN h 51 x3) fun x79 =>
  bndC (noF [x0, x79] h) fun x80 h =>
  ret1 (.bool false) h)
  (bndV (rLdN h 51 x3) fun x60 =>
  bndC (f143 [x0, x60] h) fun x61 h =>
  ret1 (.bool false) h))
noncomputable def f57_1 (x0 : V) (x3 : V) (x50 : V) (h : HT) : Option J := bndV (rNilc x0) fun x52 =>
  bndV (rFa 2 x52) fun x53 =>
  bndV (rLd h x53) fun x54 =>
  bndV (rFa 3 x3) fun x55 =>
  bndV (rLdN h 2 x55) fun x56 =>
  bndC (f139 [x54, x56] h) fun x57 h =>
  tstv x57 (ret1 x50 h)
  (tstv x50 (bndV (rLdN h 51 x3) fun x65 =>
  bndC (f140 [x0, x65] h) fun x66 h =>
  ret1 (.bool false) h)
  (bndV (rFa 0 x3) fun x68 =>
  bndV (rLd h x68) fun x69 =>
  (f57_0 x0 x3 x69 h)))
noncomputable def f57_2 (x0 : V) (x3 : V) (x29 : V) (x36 : V) (h : HT) : Option J := bndV (rPick x29 (.bool true) x36) fun x37 =>
  tstv x37 (ret1 (.bool false) h)
  (bndV (rFa 0 x3) fun x38 =>
  bndV (rLd h x38) fun x39 =>
  bndV (rEql x39 (.int .i64 (.ofNat (nat_lit 1)))) fun x40 =>
  bndC (gsel x40 false (retV (rFa 0 x3) h) h) fun x42 h =>
  bndC (gsel x40 false (retV (rLd h x42) h) h) fun x43 h =>
  bndC (gsel x40 false (retV (rEql x43 (.int .i64 (.ofNat (nat_lit 3)))) h) h) fun x44 h =>
  bndV (rPick x40 (.bool true) x44) fun x45 =>
  bndC (gsel x45 false (retV (rFa 0 x3) h) h) fun x47 h =>
  bndC (gsel x45 false (retV (rLd h x47) h) h) fun x48 h =>
  bndC (gsel x45 false (retV (rEql x48 (.int .i64 (.ofNat (nat_lit 6)))) h) h) fun x49 h =>
  bndV (rPick x45 (.bool true) x49) fun x50 =>
  (f57_1 x0 x3 x50 h))
noncomputable def f57_3 (x0 : V) (x3 : V) (x17 : V) (x19 : V) (x20 : V) (h : HT) : Option J := bndC (gsel x17 false (retV (rLd h x20) h) h) fun x21 h =>
  bndC (gsel x17 false (f138 [x19, x21] h) h) fun x22 h =>
  bndC (gsel x17 false (retV (rNot x22) h) h) fun x23 h =>
  bndV (rPick x17 (.bool true) x23) fun x24 =>
  bndC (gsel x24 false (retV (rFa 0 x3) h) h) fun x26 h =>
  bndC (gsel x24 false (retV (rLd h x26) h) h) fun x27 h =>
  bndC (gsel x24 false (retV (rGeq x27 (.int .i64 (.ofNat (nat_lit 9)))) h) h) fun x28 h =>
  bndV (rPick x24 (.bool true) x28) fun x29 =>
  bndC (gsel x29 false (retV (kMov [x0]) h) h) fun x31 h =>
  bndC (gsel x29 false (retV (rFa 3 x3) h) h) fun x32 h =>
  bndC (gsel x29 false (retV (rFa 0 x32) h) h) fun x33 h =>
  bndC (gsel x29 false (retV (rLd h x33) h) h) fun x34 h =>
  bndC (gsel x29 false (f138 [x31, x34] h) h) fun x35 h =>
  bndC (gsel x29 false (retV (rNot x35) h) h) fun x36 h =>
  (f57_2 x0 x3 x29 x36 h)
noncomputable def f57_4 (x0 : V) (x1 : V) (h : HT) : Option J := bndN (rBox x1) h fun x3 h =>
  bndV (rLdN h 51 x3) fun x6 =>
  bndC (f54 [x6] h) fun x7 h =>
  bndV (rNot x7) fun x8 =>
  bndC (gsel x8 false (retV (rFa 2 x3) h) h) fun x10 h =>
  bndC (gsel x8 false (retV (rLd h x10) h) h) fun x11 h =>
  bndC (gsel x8 false (retV (kMov [x0]) h) h) fun x12 h =>
  bndC (gsel x8 false (retV (rNilc x12) h) h) fun x13 h =>
  bndC (gsel x8 false (retV (rFa 1 x13) h) h) fun x14 h =>
  bndC (gsel x8 false (retV (rLd h x14) h) h) fun x15 h =>
  bndC (gsel x8 false (retV (rNeq x11 x15) h) h) fun x16 h =>
  bndV (rPick x8 (.bool true) x16) fun x17 =>
  bndC (gsel x17 false (retV (kMov [x0]) h) h) fun x19 h =>
  bndC (gsel x17 false (retV (rFa 1 x3) h) h) fun x20 h =>
  (f57_3 x0 x3 x17 x19 x20 h)
noncomputable def f57 (vs : List V) (h : HT) : Option J := unc2 vs fun x0 x1 =>
  (f57_4 x0 x1 h)

/- (*concord/node.Node).Take -/
noncomputable def l16 : List (Nat × (List V → HT → Option J)) := [(45, f45), (54, f54), (57, f57)]
noncomputable def t16 : Fns := tab l16
noncomputable def f16_0 (x0 : V) (x3 : V) (x61 : V) (h : HT) : Option J := tstv x61 (bndV (rFa 50 x3) fun x63 =>
  bndV (rLd h x63) fun x64 =>
  bndN (kS2b [x64]) h fun x65 h =>
  bndC (noF [x0, x65] h) fun x66 h =>
  some ⟨0, [], h⟩)
  (bndV (rNilc x0) fun x35 =>
  bndV (rFa 4 x35) fun x36 =>
  bndV (rLd h x36) fun x37 =>
  bndV (rLdN h 51 x3) fun x38 =>
  bndC (f57 [x37, x38] h) fun x39 h =>
  bndJ (tstv x39 (bndV (rFa 1 x3) fun x41 =>
  bndV (rLd h x41) fun x42 =>
  bndC (noF [x0, x42] h) fun x43 h =>
  some ⟨0, [], h⟩)
  (some ⟨0, [], h⟩))
  fun j vs h => some ⟨0, [], h⟩)
noncomputable def f16_1 (x0 : V) (x3 : V) (x33 : V) (x45 : V) (h : HT) : Option J := tstv x45 (bndV (rNilc x0) fun x47 =>
  bndV (rFa 5 x47) fun x48 =>
  bndV (rLd h x48) fun x49 =>
  bndV (rFa 1 x3) fun x50 =>
  bndV (rLd h x50) fun x51 =>
  bndV (rFa 43 x3) fun x52 =>
  bndV (rLdN h 7 x52) fun x53 =>
  bndC (noF [x49, x51, x53] h) fun x54 h =>
  some ⟨0, [], h⟩)
  (bndV (rEql x33 (.int .i64 (.ofNat (nat_lit 11)))) fun x56 =>
  bndJ (tstv x56 (bndV (rLdN h 51 x3) fun x58 =>
  bndC (noF [x0, x58] h) fun x59 h =>
  some ⟨0, [], h⟩)
  (bndV (rEql x33 (.int .i64 (.ofNat (nat_lit 10)))) fun x61 =>
  bndJ ((f16_0 x0 x3 x61 h))
  fun j vs h => some ⟨0, [], h⟩))
  fun j vs h => some ⟨0, [], h⟩)
noncomputable def f16_2 (x0 : V) (x3 : V) (x22 : V) (x25 : V) (h : HT) : Option J := bndC (gsel x22 false (retV (kMov [x0]) h) h) fun x26 h =>
  bndC (gsel x22 false (retV (rNilc x26) h) h) fun x27 h =>
  bndC (gsel x22 false (retV (rFa 0 x27) h) h) fun x28 h =>
  bndC (gsel x22 false (retV (rLd h x28) h) h) fun x29 h =>
  bndC (gsel x22 false (retV (rGeq x25 x29) h) h) fun x30 h =>
  bndV (rPick x22 (.bool true) x30) fun x31 =>
  tstv x31 (ret1 (.bool false) h)
  (bndV (rFa 0 x3) fun x32 =>
  bndV (rLd h x32) fun x33 =>
  bndV (rEql x33 (.int .i64 (.ofNat (nat_lit 9)))) fun x45 =>
  bndJ ((f16_1 x0 x3 x33 x45 h))
  fun j vs h => bndC (f45 [x0] h) fun x68 h =>
  ret1 (.bool true) h)
noncomputable def f16_3 (x0 : V) (x3 : V) (x8 : V) (h : HT) : Option J := bndC (gsel x8 false (retV (rLdN h 51 x3) h) h) fun x10 h =>
  bndC (gsel x8 false (f54 [x10] h) h) fun x11 h =>
  bndC (gsel x8 false (retV (rNot x11) h) h) fun x12 h =>
  bndV (rPick x8 (.bool true) x12) fun x13 =>
  bndC (gsel x13 false (retV (rFa 2 x3) h) h) fun x15 h =>
  bndC (gsel x13 false (retV (rLd h x15) h) h) fun x16 h =>
  bndC (gsel x13 false (retV (kMov [x0]) h) h) fun x17 h =>
  bndC (gsel x13 false (retV (rNilc x17) h) h) fun x18 h =>
  bndC (gsel x13 false (retV (rFa 1 x18) h) h) fun x19 h =>
  bndC (gsel x13 false (retV (rLd h x19) h) h) fun x20 h =>
  bndC (gsel x13 false (retV (rNeq x16 x20) h) h) fun x21 h =>
  bndV (rPick x13 (.bool true) x21) fun x22 =>
  bndC (gsel x22 false (retV (rFa 1 x3) h) h) fun x24 h =>
  bndC (gsel x22 false (retV (rLd h x24) h) h) fun x25 h =>
  (f16_2 x0 x3 x22 x25 h)
noncomputable def f16 (vs : List V) (h : HT) : Option J := unc2 vs fun x0 x1 =>
  bndN (rBox x1) h fun x3 h =>
  bndV (rNilc x0) fun x6 =>
  bndV (rFa 74 x6) fun x7 =>
  bndV (rLd h x7) fun x8 =>
  (f16_3 x0 x3 x8 h)

/- (*concord/cluster.Cluster).letter -/
noncomputable def l62 : List (Nat × (List V → HT → Option J)) := [(16, f16), (22, f22), (60, f60), (148, cDelLetter)]
noncomputable def t62 : Fns := tab l62
noncomputable def f62_0 (x0 : V) (x3 : V) (x30 : V) (h : HT) : Option J := tstv x30 (bndV (rNilc x0) fun x33 =>
  bndV (rFa 5 x33) fun x34 =>
  bndV (rLd h x34) fun x35 =>
  bndV (rFa 1 x3) fun x36 =>
  bndV (rLd h x36) fun x37 =>
  bndV (rFa 1 x3) fun x38 =>
  bndV (rLd h x38) fun x39 =>
  bndV (rAdd x39 (.int .i64 (.ofNat (nat_lit 1)))) fun x40 =>
  bndC (cDelLetter [x35, x37, x40] h) fun x41 h =>
  bndV (rNilc x0) fun x42 =>
  bndV (rFa 5 x42) fun x43 =>
  bndE (rSt h 1 x43 x41) h fun _ h =>
  some ⟨0, [], h⟩)
  (some ⟨0, [], h⟩)
noncomputable def f62_1 (x0 : V) (x3 : V) (x5 : V) (x46 : V) (h : HT) : Option J := bndC (f22 [x0, x46] h) fun x47 h =>
  bndV (rFa 0 x3) fun x48 =>
  bndV (rLd h x48) fun x49 =>
  bndV (rNeq x49 (.int .i64 (.ofNat (nat_lit 4)))) fun x50 =>
  bndC (gsel x50 true (retV (kMov [x47]) h) h) fun x52 h =>
  bndC (gsel x50 true (retV (kEqN true [x52, (.ptr none)]) h) h) fun x53 h =>
  bndV (rPick x50 x53 (.bool false)) fun x54 =>
  tstv x54 (bndV (rLdN h 51 x5) fun x56 =>
  bndC (f16 [x47, x56] h) fun x57 h =>
  bndV (rFa 2 x5) fun x59 =>
  bndV (rLd h x59) fun x60 =>
  bndC (f60 [x0, x60] h) fun x61 h =>
  ret1 (.bool true) h)
  (ret1 (.bool true) h)
noncomputable def f62_2 (x0 : V) (x3 : V) (x22 : V) (h : HT) : Option J := bndV (rLd h x22) fun x23 =>
  bndV (rFa 1 x3) fun x24 =>
  bndV (rLd h x24) fun x25 =>
  bndV (rIaS 51 x23 x25) fun x26 =>
  bndV (rLdN h 51 x26) fun x27 =>
  bndN (rAlloc [(.int .i64 (.ofNat (nat_lit 0))), (.int .i64 (.ofNat (nat_lit 0))), (.int .i64 (.ofNat (nat_lit 0))), (.int .i64 (.ofNat (nat_lit 0))), (.int .i64 (.ofNat (nat_lit 0))), (.int .i64 (.ofNat (nat_lit 0))), (.int .i64 (.ofNat (nat_lit 0))), (.int .i64 (.ofNat (nat_lit 0))), (.int .i64 (.ofNat (nat_lit 0))), (.int .i64 (.ofNat (nat_lit 0))), (.str (sb [])), (.str (sb [])), (.str (sb [])), (.str (sb [])), (.int .i64 (.ofNat (nat_lit 0))), (.int .i64 (.ofNat (nat_lit 0))), (.int .i64 (.ofNat (nat_lit 0))), (.int .i64 (.ofNat (nat_lit 0))), (.int .i64 (.ofNat (nat_lit 0))), (.int .i64 (.ofNat (nat_lit 0))), (.int .i64 (.ofNat (nat_lit 0))), (.int .i64 (.ofNat (nat_lit 0))), (.int .i64 (.ofNat (nat_lit 0))), (.int .i64 (.ofNat (nat_lit 0))), (.int .i64 (.ofNat (nat_lit 0))), (.int .i64 (.ofNat (nat_lit 0))), (.int .i64 (.ofNat (nat_lit 0))), (.int .i64 (.ofNat (nat_lit 0))), (.int .i64 (.ofNat (nat_lit 0))), (.int .i64 (.ofNat (nat_lit 0))), (.str (sb [])), (.str (sb [])), (.str (sb [])), (.str (sb [])), (.int .i64 (.ofNat (nat_lit 0))), (.int .i64 (.ofNat (nat_lit 0))), (.int .i64 (.ofNat (nat_lit 0))), (.int .i64 (.ofNat (nat_lit 0))), (.int .i64 (.ofNat (nat_lit 0))), (.int .i64 (.ofNat (nat_lit 0))), (.int .i64 (.ofNat (nat_lit 0))), (.int .i64 (.ofNat (nat_lit 0))), (.bool false), (.int .i64 (.ofNat (nat_lit 0))), (.int .i64 (.ofNat (nat_lit 0))), (.int .i64 (.ofNat (nat_lit 0))), (.int .i64 (.ofNat (nat_lit 0))), (.int .i64 (.ofNat (nat_lit 0))), (.int .i64 (.ofNat (nat_lit 0))), (.int .i64 (.ofNat (nat_lit 0))), (.str (sb []))] []) h fun x5 h =>
  bndE (rSt h 51 x5 x27) h fun _ h =>
  bndV (rFa 0 x3) fun x28 =>
  bndV (rLd h x28) fun x29 =>
  bndV (rNeq x29 (.int .i64 (.ofNat (nat_lit 3)))) fun x30 =>
  bndJ ((f62_0 x0 x3 x30 h))
  fun j vs h => bndV (rFa 2 x5) fun x45 =>
  bndV (rLd h x45) fun x46 =>
  (f62_1 x0 x3 x5 x46 h)
noncomputable def f62_3 (x0 : V) (x3 : V) (x8 : V) (h : HT) : Option J := bndV (rLss x8 (.int .i64 (.ofNat (nat_lit 0)))) fun x9 =>
  bndC (gsel x9 false (retV (rFa 1 x3) h) h) fun x11 h =>
  bndC (gsel x9 false (retV (rLd h x11) h) h) fun x12 h =>
  bndC (gsel x9 false (retV (kMov [x0]) h) h) fun x13 h =>
  bndC (gsel x9 false (retV (rNilc x13) h) h) fun x14 h =>
  bndC (gsel x9 false (retV (rFa 5 x14) h) h) fun x15 h =>
  bndC (gsel x9 false (retV (rLd h x15) h) h) fun x16 h =>
  bndC (gsel x9 false (retV (rLenS x16) h) h) fun x17 h =>
  bndC (gsel x9 false (retV (rGeq x12 x17) h) h) fun x18 h =>
  bndV (rPick x9 (.bool true) x18) fun x19 =>
  tstv x19 (ret1 (.bool false) h)
  (bndV (rNilc x0) fun x21 =>
  bndV (rFa 5 x21) fun x22 =>
  (f62_2 x0 x3 x22 h))
noncomputable def f62 (vs : List V) (h : HT) : Option J := unc2 vs fun x0 x1 =>
  bndN (rBox x1) h fun x3 h =>
  bndV (rFa 1 x3) fun x7 =>
  bndV (rLd h x7) fun x8 =>
  (f62_3 x0 x3 x8 h)

/- (*concord/cluster.Cluster).Do -/
noncomputable def l21 : List (Nat × (List V → HT → Option J)) := [(61, f61), (62, f62)]
noncomputable def t21 : Fns := tab l21
noncomputable def f21_0 (x0 : V) (x3 : V) (x66 : V) (h : HT) : Option J := bndV (rFa 1 x3) fun x67 =>
  bndV (rLd h x67) fun x68 =>
  bndV (rIaS 1 x66 x68) fun x69 =>
  bndE (rSt h 1 x69 (.ptr none)) h fun _ h =>
  bndV (rNilc x0) fun x71 =>
  bndV (rFa 1 x71) fun x72 =>
  bndV (rLd h x72) fun x73 =>
  bndV (rFa 1 x3) fun x74 =>
  bndV (rLd h x74) fun x75 =>
  bndV (rIaS 1 x73 x75) fun x76 =>
  bndV (rLd h x76) fun x77 =>
  bndV (rFa 11 x3) fun x78 =>
  bndV (rLd h x78) fun x79 =>
  bndC (noF [x77, x79] h) fun x80 h =>
  ret1 (.bool true) h
noncomputable def f21_1 (x0 : V) (x3 : V) (x39 : V) (x49 : V) (h : HT) : Option J := tstv x49 (bndV (rNilc x0) fun x51 =>
  bndV (rFa 1 x51) fun x52 =>
  bndV (rLd h x52) fun x53 =>
  bndV (rFa 1 x3) fun x54 =>
  bndV (rLd h x54) fun x55 =>
  bndV (rIaS 1 x53 x55) fun x56 =>
  bndV (rLd h x56) fun x57 =>
  bndV (rFa 2 x3) fun x58 =>
  bndV (rLd h x58) fun x59 =>
  bndC (noF [x57, x59] h) fun x60 h =>
  ret1 (.bool true) h)
  (bndV (rEql x39 (.int .i64 (.ofNat (nat_lit 8)))) fun x62 =>
  tstv x62 (bndV (rNilc x0) fun x64 =>
  bndV (rFa 2 x64) fun x65 =>
  bndV (rLd h x65) fun x66 =>
  (f21_0 x0 x3 x66 h))
  (ret1 (.bool false) h))
noncomputable def f21_2 (x0 : V) (x3 : V) (x34 : V) (h : HT) : Option J := bndC (noF [x0, x34] h) fun x35 h =>
  bndV (kEqN false [x35, (.ptr none)]) fun x37 =>
  tstv x37 (ret1 (.bool false) h)
  (bndV (rFa 0 x3) fun x38 =>
  bndV (rLd h x38) fun x39 =>
  bndV (rEql x39 (.int .i64 (.ofNat (nat_lit 5)))) fun x41 =>
  tstv x41 (bndC (noF [x35] h) fun x43 h =>
  bndV (rFa 1 x3) fun x45 =>
  bndV (rLd h x45) fun x46 =>
  bndC (noF [x0, x46] h) fun x47 h =>
  ret1 (.bool true) h)
  (bndV (rEql x39 (.int .i64 (.ofNat (nat_lit 7)))) fun x49 =>
  (f21_1 x0 x3 x39 x49 h)))
noncomputable def f21_3 (x0 : V) (x3 : V) (x7 : V) (h : HT) : Option J := bndV (rEql x7 (.int .i64 (.ofNat (nat_lit 6)))) fun x21 =>
  tstv x21 (bndV (rFa 1 x3) fun x23 =>
  bndV (rLd h x23) fun x24 =>
  bndC (noF [x0, x24] h) fun x25 h =>
  ret1 x25 h)
  (bndV (rEql x7 (.int .i64 (.ofNat (nat_lit 9)))) fun x27 =>
  tstv x27 (bndV (rFa 1 x3) fun x29 =>
  bndV (rLd h x29) fun x30 =>
  bndC (noF [x0, x30] h) fun x31 h =>
  ret1 x31 h)
  (bndV (rFa 1 x3) fun x33 =>
  bndV (rLd h x33) fun x34 =>
  (f21_2 x0 x3 x34 h)))
noncomputable def f21_4 (x0 : V) (x3 : V) (x7 : V) (x14 : V) (h : HT) : Option J := bndJ (tstv x14 (some ⟨0, [x14], h⟩)
  (bndV (rEql x7 (.int .i64 (.ofNat (nat_lit 3)))) fun x15 =>
  bndJ (tstv x15 (some ⟨0, [x15], h⟩)
  (bndV (rEql x7 (.int .i64 (.ofNat (nat_lit 4)))) fun x16 =>
  some ⟨0, [x16], h⟩))
  fun j vs h => unc1 vs fun x13 =>
  some ⟨0, [x13], h⟩))
  fun j vs h => unc1 vs fun x13 =>
  tstv x13 (bndV (rLdN h 12 x3) fun x18 =>
  bndC (f62 [x0, x18] h) fun x19 h =>
  ret1 x19 h)
  ((f21_3 x0 x3 x7 h))
noncomputable def f21 (vs : List V) (h : HT) : Option J := unc2 vs fun x0 x1 =>
  bndN (rBox x1) h fun x3 h =>
  bndV (rFa 0 x3) fun x6 =>
  bndV (rLd h x6) fun x7 =>
  bndV (rEql x7 (.int .i64 (.ofNat (nat_lit 1)))) fun x9 =>
  tstv x9 (bndV (rLdN h 12 x3) fun x11 =>
  bndC (f61 [x0, x11] h) fun x12 h =>
  ret1 x12 h)
  (bndV (rEql x7 (.int .i64 (.ofNat (nat_lit 2)))) fun x14 =>
  (f21_4 x0 x3 x7 x14 h))

/- slices.Clone[[]concord/api.Event,concord/api.Event] -/
noncomputable def l69 : List (Nat × (List V → HT → Option J)) := []
noncomputable def t69 : Fns := tab l69

noncomputable def f69 (vs : List V) (h : HT) : Option J := unc1 vs fun x0 =>
  bndV (kEqN false [x0, (.slice none 0 true 0)]) fun x4 =>
  tstv x4 (ret1 (.slice none 0 true 0) h)
  (bndN (rBsl 14 0 [] [] []) h fun x5 h =>
  bndE (dApp h 14 168 [x5, x0]) h fun x7 h =>
  ret1 x7 h)

/- (*concord/cluster.Cluster).History -/
noncomputable def l25 : List (Nat × (List V → HT → Option J)) := [(69, f69), (70, f70)]
noncomputable def t25 : Fns := tab l25
noncomputable def f25_0 (rc : List V → HT → Option J) (x9 : V) (x11 : V) (vs : List V) (h : HT) : Option J := unc1 vs fun x12 =>
  bndV (rLss x12 x11) fun x13 =>
  tstv x13 (bndV (rIaS 14 x9 x12) fun x19 =>
  bndV (rFa 9 x19) fun x20 =>
  bndV (rFa 4 x20) fun x21 =>
  bndV (rLd h x21) fun x22 =>
  bndC (f70 [x22] h) fun x23 h =>
  bndV (rIaS 14 x9 x12) fun x24 =>
  bndV (rFa 9 x24) fun x25 =>
  bndV (rFa 4 x25) fun x26 =>
  bndE (rSt h 1 x26 x23) h fun _ h =>
  bndV (rAdd x12 (.int .i64 (.ofNat (nat_lit 1)))) fun x27 =>
  rc [x27] h)
  (some ⟨0, [], h⟩)
noncomputable def f25 (vs : List V) (h : HT) : Option J := unc1 vs fun x0 =>
  bndV (rNilc x0) fun x6 =>
  bndV (rFa 6 x6) fun x7 =>
  bndV (rLd h x7) fun x8 =>
  bndC (f69 [x8] h) fun x9 h =>
  bndV (rLenS x9) fun x11 =>
  bndJ (loopF (fun rc vs h => (f25_0 rc x9 x11 vs h)) 1000000 [(.int .i64 (.ofNat (nat_lit 0)))] h)
  fun j vs h => ret1 x9 h

/- (*concord/client.Client).Waits -/
noncomputable def l152 : List (Nat × (List V → HT → Option J)) := []
noncomputable def t152 : Fns := tab l152

noncomputable def f152 (vs : List V) (h : HT) : Option J := unc1 vs fun x0 =>
  bndV (rNilc x0) fun x4 =>
  bndV (rFa 9 x4) fun x5 =>
  bndV (rLd h x5) fun x6 =>
  ret1 x6 h

/- (*concord/cluster.Cluster).Waits -/
noncomputable def l71 : List (Nat × (List V → HT → Option J)) := [(144, f144), (152, f152)]
noncomputable def t71 : Fns := tab l71

noncomputable def f71 (vs : List V) (h : HT) : Option J := unc2 vs fun x0 x1 =>
  bndC (f144 [x1] h) fun x6 h =>
  bndC (gsel x6 true (retV (kMov [x0]) h) h) fun x8 h =>
  bndC (gsel x6 true (retV (rNilc x8) h) h) fun x9 h =>
  bndC (gsel x6 true (retV (rFa 3 x9) h) h) fun x10 h =>
  bndC (gsel x6 true (retV (rLd h x10) h) h) fun x11 h =>
  bndC (gsel x6 true (retV (kMov [x1]) h) h) fun x12 h =>
  bndC (gsel x6 true (retV (rSub x12 (.int .i64 (.ofNat (nat_lit 1)))) h) h) fun x13 h =>
  bndC (gsel x6 true (retV (rIaS 1 x11 x13) h) h) fun x14 h =>
  bndC (gsel x6 true (retV (rLd h x14) h) h) fun x15 h =>
  bndC (gsel x6 true (f152 [x15] h) h) fun x16 h =>
  bndV (rPick x6 x16 (.bool false)) fun x17 =>
  ret1 x17 h

/- concord/concordlaw25.ClusterRuns -/
noncomputable def l26 : List (Nat × (List V → HT → Option J)) := [(18, f18), (21, f21), (25, f25), (71, f71)]
noncomputable def t26 : Fns := tab l26
noncomputable def f26_0 (x10 : V) (x45 : V) (x72 : V) (x77 : V) (h : HT) : Option J := bndC (gsel x72 true (retV (rLd h x77) h) h) fun x78 h =>
  bndC (gsel x72 true (retV (rEql x78 (.int .i64 (.ofNat (nat_lit 1)))) h) h) fun x79 h =>
  bndV (rPick x72 x79 (.bool false)) fun x80 =>
  bndC (gsel x80 true (retV (kMov [x45]) h) h) fun x82 h =>
  bndC (gsel x80 true (retV (rIaS 14 x82 (.int .i64 (.ofNat (nat_lit 1)))) h) h) fun x83 h =>
  bndC (gsel x80 true (retV (rFa 2 x83) h) h) fun x84 h =>
  bndC (gsel x80 true (retV (rFa 2 x84) h) h) fun x85 h =>
  bndC (gsel x80 true (retV (rLd h x85) h) h) fun x86 h =>
  bndC (gsel x80 true (retV (rEql x86 (.int .i64 (.ofNat (nat_lit 1)))) h) h) fun x87 h =>
  bndV (rPick x80 x87 (.bool false)) fun x88 =>
  bndC (gsel x88 true (retV (kMov [x10]) h) h) fun x90 h =>
  bndC (gsel x88 true (f71 [x90, (.int .i64 (.ofNat (nat_lit 1)))] h) h) fun x91 h =>
  bndC (gsel x88 true (retV (rNot x91) h) h) fun x92 h =>
  bndV (rPick x88 x92 (.bool false)) fun x93 =>
  ret1 x93 h
noncomputable def f26_1 (x10 : V) (x45 : V) (x58 : V) (x61 : V) (h : HT) : Option J := bndC (gsel x58 true (retV (rFa 0 x61) h) h) fun x62 h =>
  bndC (gsel x58 true (retV (rLd h x62) h) h) fun x63 h =>
  bndC (gsel x58 true (retV (rEql x63 (.int .i64 (.ofNat (nat_lit 2)))) h) h) fun x64 h =>
  bndV (rPick x58 x64 (.bool false)) fun x65 =>
  bndC (gsel x65 true (retV (kMov [x45]) h) h) fun x67 h =>
  bndC (gsel x65 true (retV (rIaS 14 x67 (.int .i64 (.ofNat (nat_lit 1)))) h) h) fun x68 h =>
  bndC (gsel x65 true (retV (rFa 1 x68) h) h) fun x69 h =>
  bndC (gsel x65 true (retV (rLd h x69) h) h) fun x70 h =>
  bndC (gsel x65 true (retV (rEql x70 (.int .i64 (.ofNat (nat_lit 1)))) h) h) fun x71 h =>
  bndV (rPick x65 x71 (.bool false)) fun x72 =>
  bndC (gsel x72 true (retV (kMov [x45]) h) h) fun x74 h =>
  bndC (gsel x72 true (retV (rIaS 14 x74 (.int .i64 (.ofNat (nat_lit 1)))) h) h) fun x75 h =>
  bndC (gsel x72 true (retV (rFa 9 x75) h) h) fun x76 h =>
  bndC (gsel x72 true (retV (rFa 3 x76) h) h) fun x77 h =>
  (f26_0 x10 x45 x72 x77 h)
noncomputable def f26_2 (x10 : V) (x34 : V) (h : HT) : Option J := bndJ (loopF (fun rc vs h => unc1 vs fun x6 =>
  bndV (rLss x6 (.int .i64 (.ofNat (nat_lit 100)))) fun x36 =>
  bndC (gsel x36 true (retV (kMov [x10]) h) h) fun x38 h =>
  bndC (gsel x36 true (retV (rBld [(.int .i64 (.ofNat (nat_lit 0))), (.int .i64 (.ofNat (nat_lit 0))), (.int .i64 (.ofNat (nat_lit 0))), (.int .i64 (.ofNat (nat_lit 0))), (.int .i64 (.ofNat (nat_lit 0))), (.int .i64 (.ofNat (nat_lit 0))), (.int .i64 (.ofNat (nat_lit 0))), (.str (sb [])), (.str (sb [])), (.str (sb [])), (.str (sb [])), (.slice none 0 true 0)] [(0, 1)] [(.int .i64 (.ofNat (nat_lit 2)))]) h) h) fun x39 h =>
  bndC (gsel x36 true (f21 [x38, x39] h) h) fun x40 h =>
  bndV (rPick x36 x40 (.bool false)) fun x41 =>
  tstv x41 (bndV (rAdd x6 (.int .i64 (.ofNat (nat_lit 1)))) fun x43 =>
  rc [x43] h)
  (some ⟨0, [], h⟩)) 1000000 [(.int .i64 (.ofNat (nat_lit 0)))] h)
  fun j vs h => bndC (f25 [x10] h) fun x45 h =>
  bndC (gsel x34 true (retV (kMov [x45]) h) h) fun x48 h =>
  bndC (gsel x34 true (retV (rLenS x48) h) h) fun x49 h =>
  bndC (gsel x34 true (retV (rEql x49 (.int .i64 (.ofNat (nat_lit 2)))) h) h) fun x50 h =>
  bndV (rPick x34 x50 (.bool false)) fun x51 =>
  bndC (gsel x51 true (retV (kMov [x45]) h) h) fun x53 h =>
  bndC (gsel x51 true (retV (rIaS 14 x53 (.int .i64 (.ofNat (nat_lit 0)))) h) h) fun x54 h =>
  bndC (gsel x51 true (retV (rFa 0 x54) h) h) fun x55 h =>
  bndC (gsel x51 true (retV (rLd h x55) h) h) fun x56 h =>
  bndC (gsel x51 true (retV (rEql x56 (.int .i64 (.ofNat (nat_lit 1)))) h) h) fun x57 h =>
  bndV (rPick x51 x57 (.bool false)) fun x58 =>
  bndC (gsel x58 true (retV (kMov [x45]) h) h) fun x60 h =>
  bndC (gsel x58 true (retV (rIaS 14 x60 (.int .i64 (.ofNat (nat_lit 1)))) h) h) fun x61 h =>
  (f26_1 x10 x45 x58 x61 h)
noncomputable def f26_3 (x10 : V) (x15 : V) (x17 : V) (x19 : V) (h : HT) : Option J := bndC (gsel x17 false (retV (rNeq x19 (.int .i64 (.ofNat (nat_lit 0)))) h) h) fun x20 h =>
  bndV (rPick x17 (.bool true) x20) fun x21 =>
  bndC (gsel x21 false (retV (kMov [x15]) h) h) fun x23 h =>
  bndC (gsel x21 false (retV (rNeq x23 (.int .i64 (.ofNat (nat_lit 1)))) h) h) fun x24 h =>
  bndV (rPick x21 (.bool true) x24) fun x25 =>
  bndC (gsel x25 false (retV (kMov [x10]) h) h) fun x27 h =>
  bndC (gsel x25 false (retV (rBld [(.int .i64 (.ofNat (nat_lit 0))), (.int .i64 (.ofNat (nat_lit 0))), (.int .i64 (.ofNat (nat_lit 0))), (.int .i64 (.ofNat (nat_lit 0))), (.int .i64 (.ofNat (nat_lit 0))), (.int .i64 (.ofNat (nat_lit 0))), (.int .i64 (.ofNat (nat_lit 0))), (.str (sb [])), (.str (sb [])), (.str (sb [])), (.str (sb [])), (.slice none 0 true 0)] [(0, 1)] [(.int .i64 (.ofNat (nat_lit 2)))]) h) h) fun x28 h =>
  bndC (gsel x25 false (f21 [x27, x28] h) h) fun x29 h =>
  bndV (rPick x25 (.bool true) x29) fun x30 =>
  tstv x30 (ret1 (.bool false) h)
  (bndV (rBld [(.int .i64 (.ofNat (nat_lit 0))), (.int .i64 (.ofNat (nat_lit 0))), (.int .i64 (.ofNat (nat_lit 0))), (.str (sb [])), (.str (sb [])), (.str (sb [])), (.str (sb []))] [(0, 1), (3, 1)] [(.int .i64 (.ofNat (nat_lit 2))), (.str (sb [97]))]) fun x32 =>
  bndV (rBld [(.int .i64 (.ofNat (nat_lit 0))), (.int .i64 (.ofNat (nat_lit 0))), (.int .i64 (.ofNat (nat_lit 0))), (.int .i64 (.ofNat (nat_lit 0))), (.int .i64 (.ofNat (nat_lit 0))), (.int .i64 (.ofNat (nat_lit 0))), (.int .i64 (.ofNat (nat_lit 0))), (.str (sb [])), (.str (sb [])), (.str (sb [])), (.str (sb [])), (.slice none 0 true 0)] [(0, 1), (3, 1), (4, 7)] [(.int .i64 (.ofNat (nat_lit 1))), (.int .i64 (.ofNat (nat_lit 1))), x32]) fun x33 =>
  bndC (f21 [x10, x33] h) fun x34 h =>
  (f26_2 x10 x34 h))
noncomputable def f26 (vs : List V) (h : HT) : Option J := bndC (f18 [(.int .i64 (.ofNat (nat_lit 3)))] h) fun x9 h =>
  bndV (rExt 0 x9) fun x10 =>
  bndV (rExt 1 x9) fun x11 =>
  bndC (f18 [(.int .i64 (.ofNat (nat_lit 4)))] h) fun x13 h =>
  bndV (rExt 0 x13) fun x14 =>
  bndV (rExt 1 x13) fun x15 =>
  bndV (kEqN false [x10, (.ptr none)]) fun x17 =>
  bndC (gsel x17 false (retV (kMov [x11]) h) h) fun x19 h =>
  (f26_3 x10 x15 x17 x19 h)
end Go.Cn
