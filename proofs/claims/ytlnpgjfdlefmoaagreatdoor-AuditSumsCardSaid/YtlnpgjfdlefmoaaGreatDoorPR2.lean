/- Functions of the program, told as plain functions of what they are called with (printed by a program of the prover). -/
import Derived.Test.YtlnpgjfdlefmoaaGreatDoorPR1
namespace Go.Cn
set_option maxRecDepth 100000
set_option linter.unusedVariables false
/- (*concord/core.Core).accept -/
noncomputable def l278 : List (Nat × (List V → HT → Option J)) := [(101, f101), (127, f127), (128, f128)]
noncomputable def t278 : Fns := tab l278
noncomputable def f278_0 (x0 : V) (x1 : V) (x6 : V) (x7 : V) (x30 : V) (h : HT) : Option J := tstv x30 (bndV (rNilc x1) fun x33 =>
  bndV (rFa 0 x33) fun x34 =>
  bndV (rLdN h 2 x34) fun x35 =>
  bndC (noF [x0, x35] h) fun x36 h =>
  ret1 (.tuple []) h)
  (bndV (rNilc x1) fun x39 =>
  bndV (rFa 0 x39) fun x40 =>
  bndV (rLdN h 2 x40) fun x41 =>
  bndV (rNilc x1) fun x43 =>
  bndV (rFa 3 x43) fun x44 =>
  bndV (rLdN h 2 x44) fun x45 =>
  bndV (rLdN h 7 x6) fun x46 =>
  bndV (rLdN h 8 x7) fun x47 =>
  bndV (rBld [(.int .i64 (.ofNat (nat_lit 0))), (.int .i64 (.ofNat (nat_lit 0))), (.int .i64 (.ofNat (nat_lit 0))), (.int .i64 (.ofNat (nat_lit 0))), (.int .i64 (.ofNat (nat_lit 0))), (.bool false), (.int .i64 (.ofNat (nat_lit 0))), (.int .i64 (.ofNat (nat_lit 0))), (.int .i64 (.ofNat (nat_lit 0))), (.str (sb [])), (.str (sb [])), (.str (sb [])), (.str (sb [])), (.int .i64 (.ofNat (nat_lit 0))), (.int .i64 (.ofNat (nat_lit 0))), (.int .i64 (.ofNat (nat_lit 0))), (.int .i64 (.ofNat (nat_lit 0))), (.int .i64 (.ofNat (nat_lit 0))), (.int .i64 (.ofNat (nat_lit 0))), (.int .i64 (.ofNat (nat_lit 0))), (.int .i64 (.ofNat (nat_lit 0))), (.int .i64 (.ofNat (nat_lit 0))), (.int .i64 (.ofNat (nat_lit 0))), (.int .i64 (.ofNat (nat_lit 0))), (.int .i64 (.ofNat (nat_lit 0))), (.int .i64 (.ofNat (nat_lit 0))), (.int .i64 (.ofNat (nat_lit 0))), (.int .i64 (.ofNat (nat_lit 0))), (.slice none 0 true 0), (.slice none 0 true 0), (.int .i64 (.ofNat (nat_lit 0))), (.int .i64 (.ofNat (nat_lit 0)))] [(0, 2), (2, 1), (3, 2), (6, 7), (13, 8)] [x41, (.int .i64 (.ofNat (nat_lit 1))), x45, x46, x47]) fun x48 =>
  bndN (rBox x48) h fun x49 h =>
  bndC (f128 [x0, x49] h) fun x50 h =>
  ret1 (.tuple []) h)
noncomputable def f278_1 (x0 : V) (x1 : V) (x6 : V) (x7 : V) (x10 : V) (x12 : V) (x16 : V) (h : HT) : Option J := bndC (gsel x10 false (retV (kMov [x1]) h) h) fun x17 h =>
  bndC (gsel x10 false (retV (rNilc x17) h) h) fun x18 h =>
  bndC (gsel x10 false (retV (rFa 3 x18) h) h) fun x19 h =>
  bndC (gsel x10 false (retV (rLdN h 2 x19) h) h) fun x20 h =>
  bndC (gsel x10 false (retV (kMov [x1]) h) h) fun x21 h =>
  bndC (gsel x10 false (retV (rNilc x21) h) h) fun x22 h =>
  bndC (gsel x10 false (retV (rFa 3 x22) h) h) fun x23 h =>
  bndC (gsel x10 false (retV (rLdN h 2 x23) h) h) fun x24 h =>
  bndC (gsel x10 false (retV (rLdN h 7 x6) h) h) fun x25 h =>
  bndC (gsel x10 false (retV (rLdN h 8 x7) h) h) fun x26 h =>
  bndC (gsel x10 false (retV (rBld [(.int .i64 (.ofNat (nat_lit 0))), (.int .i64 (.ofNat (nat_lit 0))), (.int .i64 (.ofNat (nat_lit 0))), (.int .i64 (.ofNat (nat_lit 0))), (.int .i64 (.ofNat (nat_lit 0))), (.int .i64 (.ofNat (nat_lit 0))), (.int .i64 (.ofNat (nat_lit 0))), (.int .i64 (.ofNat (nat_lit 0))), (.str (sb [])), (.str (sb [])), (.str (sb [])), (.str (sb [])), (.int .i64 (.ofNat (nat_lit 0))), (.int .i64 (.ofNat (nat_lit 0))), (.int .i64 (.ofNat (nat_lit 0))), (.int .i64 (.ofNat (nat_lit 0))), (.int .i64 (.ofNat (nat_lit 0))), (.int .i64 (.ofNat (nat_lit 0))), (.int .i64 (.ofNat (nat_lit 0))), (.int .i64 (.ofNat (nat_lit 0))), (.bool false)] [(0, 1), (1, 2), (3, 2), (5, 7), (12, 8)] [(.int .i64 (.ofNat (nat_lit 2))), x20, x24, x25, x26]) h) h) fun x27 h =>
  bndC (gsel x10 false (f127 [x12, x16, x27] h) h) fun x28 h =>
  bndC (gsel x10 false (retV (rNot x28) h) h) fun x29 h =>
  bndV (rPick x10 (.bool true) x29) fun x30 =>
  (f278_0 x0 x1 x6 x7 x30 h)
noncomputable def f278 (vs : List V) (h : HT) : Option J := unc4 vs fun x0 x1 x2 x3 vs =>
  bndN (rBox x2) h fun x6 h =>
  bndN (rBox x3) h fun x7 h =>
  bndV (rLdN h 8 x7) fun x8 =>
  bndC (f101 [x8] h) fun x9 h =>
  bndV (rNot x9) fun x10 =>
  bndC (gsel x10 false (retV (kMov [x0]) h) h) fun x12 h =>
  bndC (gsel x10 false (retV (kMov [x1]) h) h) fun x13 h =>
  bndC (gsel x10 false (retV (rNilc x13) h) h) fun x14 h =>
  bndC (gsel x10 false (retV (rFa 0 x14) h) h) fun x15 h =>
  bndC (gsel x10 false (retV (rLdN h 2 x15) h) h) fun x16 h =>
  (f278_1 x0 x1 x6 x7 x10 x12 x16 h)

/- (*concord/core.Core).weigh -/
noncomputable def l216 : List (Nat × (List V → HT → Option J)) := [(218, f218), (277, f277), (278, f278)]
noncomputable def t216 : Fns := tab l216
noncomputable def f216_0 (x0 : V) (x1 : V) (x8 : V) (x28 : V) (x32 : V) (h : HT) : Option J := tstv x32 (bndV (rNilc x1) fun x35 =>
  bndV (rFa 0 x35) fun x36 =>
  bndV (rLdN h 2 x36) fun x37 =>
  bndV (rNilc x1) fun x39 =>
  bndV (rFa 6 x39) fun x40 =>
  bndV (rLdN h 7 x40) fun x41 =>
  bndV (rLdN h 8 x8) fun x42 =>
  bndC (f218 [x0, x37, x41, x42] h) fun x43 h =>
  ret1 (.bool true) h)
  (bndV (rEql x28 (.int .i64 (.ofNat (nat_lit 2)))) fun x45 =>
  tstv x45 (bndV (rNilc x1) fun x49 =>
  bndV (rFa 6 x49) fun x50 =>
  bndV (rLdN h 7 x50) fun x51 =>
  bndV (rLdN h 8 x8) fun x52 =>
  bndC (f278 [x0, x1, x51, x52] h) fun x53 h =>
  ret1 (.bool true) h)
  (ret1 (.bool false) h))
noncomputable def f216_1 (x0 : V) (x1 : V) (x2 : V) (x13 : V) (x15 : V) (h : HT) : Option J := bndV (rFa 5 x15) fun x16 =>
  bndV (rLd h x16) fun x17 =>
  bndV (rNilc x1) fun x19 =>
  bndV (rFa 13 x19) fun x20 =>
  bndV (rLdN h 8 x20) fun x21 =>
  bndV (rNilc x1) fun x23 =>
  bndV (rFa 28 x23) fun x24 =>
  bndV (rLd h x24) fun x25 =>
  bndN (rAlloc [(.int .i64 (.ofNat (nat_lit 0))), (.int .i64 (.ofNat (nat_lit 0))), (.int .i64 (.ofNat (nat_lit 0))), (.int .i64 (.ofNat (nat_lit 0))), (.int .i64 (.ofNat (nat_lit 0))), (.int .i64 (.ofNat (nat_lit 0))), (.int .i64 (.ofNat (nat_lit 0))), (.int .i64 (.ofNat (nat_lit 0)))] []) h fun x8 h =>
  bndC (f277 [x13, x17, x21, x25, x2] h) fun x27 h =>
  bndV (rExt 0 x27) fun x28 =>
  bndV (rExt 1 x27) fun x29 =>
  bndE (rSt h 8 x8 x29) h fun _ h =>
  bndV (rEql x28 (.int .i64 (.ofNat (nat_lit 1)))) fun x32 =>
  (f216_0 x0 x1 x8 x28 x32 h)
noncomputable def f216 (vs : List V) (h : HT) : Option J := unc3 vs fun x0 x1 x2 =>
  bndV (rNilc x0) fun x11 =>
  bndV (rFa 0 x11) fun x12 =>
  bndV (rLd h x12) fun x13 =>
  bndV (rNilc x1) fun x15 =>
  (f216_1 x0 x1 x2 x13 x15 h)

/- concord/quorum.best -/
noncomputable def l330 : List (Nat × (List V → HT → Option J)) := [(209, f209)]
noncomputable def t330 : Fns := tab l330
noncomputable def f330_0 (rc : List V → HT → Option J) (x5 : V) (x7 : V) (x10 : V) (x19 : V) (x23 : V) (x27 : V) (h : HT) : Option J := bndC (gsel x23 false (retV (rFa 3 x27) h) h) fun x28 h =>
  bndC (gsel x23 false (retV (rLdN h 2 x28) h) h) fun x29 h =>
  bndC (gsel x23 false (retV (rFa 1 x7) h) h) fun x30 h =>
  bndC (gsel x23 false (retV (rFa 3 x30) h) h) fun x31 h =>
  bndC (gsel x23 false (retV (rLdN h 2 x31) h) h) fun x32 h =>
  bndC (gsel x23 false (f209 [x29, x32] h) h) fun x33 h =>
  bndC (gsel x19 true (retV (rPick x23 (.bool true) x33) h) h) fun x34 h =>
  bndV (rPick x19 x34 (.bool false)) fun x35 =>
  bndJ (tstv x35 (some ⟨0, [x10], h⟩)
  (some ⟨0, [x5], h⟩))
  fun j vs h => unc1 vs fun x5 =>
  bndV (rAdd x10 (.int .i64 (.ofNat (nat_lit 1)))) fun x37 =>
  rc [x5, x37] h
noncomputable def f330_1 (rc : List V → HT → Option J) (x0 : V) (x1 : V) (x5 : V) (x10 : V) (x13 : V) (h : HT) : Option J := bndV (rLdN h 22 x13) fun x14 =>
  bndN (rAlloc [(.int .i64 (.ofNat (nat_lit 0))), (.int .i64 (.ofNat (nat_lit 0))), (.int .i64 (.ofNat (nat_lit 0))), (.int .i64 (.ofNat (nat_lit 0))), (.int .i64 (.ofNat (nat_lit 0))), (.int .i64 (.ofNat (nat_lit 0))), (.int .i64 (.ofNat (nat_lit 0))), (.int .i64 (.ofNat (nat_lit 0))), (.int .i64 (.ofNat (nat_lit 0))), (.str (sb [])), (.str (sb [])), (.str (sb [])), (.str (sb [])), (.int .i64 (.ofNat (nat_lit 0))), (.int .i64 (.ofNat (nat_lit 0))), (.int .i64 (.ofNat (nat_lit 0))), (.int .i64 (.ofNat (nat_lit 0))), (.int .i64 (.ofNat (nat_lit 0))), (.int .i64 (.ofNat (nat_lit 0))), (.int .i64 (.ofNat (nat_lit 0))), (.int .i64 (.ofNat (nat_lit 0))), (.bool false)] []) h fun x7 h =>
  bndE (rSt h 22 x7 x14) h fun _ h =>
  bndV (rFa 1 x7) fun x15 =>
  bndV (rFa 0 x15) fun x16 =>
  bndV (rLd h x16) fun x17 =>
  bndV (rEql x17 x1) fun x19 =>
  bndC (gsel x19 true (retV (kMov [x5]) h) h) fun x21 h =>
  bndC (gsel x19 true (retV (rLss x21 (.int .i64 (.ofNat (nat_lit 0)))) h) h) fun x22 h =>
  bndC (gsel x19 true (retV (kMov [x22]) h) h) fun x23 h =>
  bndC (gsel x23 false (retV (kMov [x0]) h) h) fun x24 h =>
  bndC (gsel x23 false (retV (kMov [x5]) h) h) fun x25 h =>
  bndC (gsel x23 false (retV (rIaS 22 x24 x25) h) h) fun x26 h =>
  bndC (gsel x23 false (retV (rFa 1 x26) h) h) fun x27 h =>
  (f330_0 rc x5 x7 x10 x19 x23 x27 h)
noncomputable def f330 (vs : List V) (h : HT) : Option J := unc2 vs fun x0 x1 =>
  bndV (rLenS x0) fun x9 =>
  bndJ (loopF (fun rc vs h => unc2 vs fun x5 x10 =>
  bndV (rLss x10 x9) fun x11 =>
  tstv x11 (bndV (rIaS 22 x0 x10) fun x13 =>
  (f330_1 rc x0 x1 x5 x10 x13 h))
  (some ⟨0, [x5], h⟩)) 1000000 [(.int .i64 (.negSucc (nat_lit 0))), (.int .i64 (.ofNat (nat_lit 0)))] h)
  fun j vs h => unc1 vs fun x5 =>
  ret1 x5 h

/- concord/quorum.Prepared -/
noncomputable def l279 : List (Nat × (List V → HT → Option J)) := [(217, f217), (330, f330)]
noncomputable def t279 : Fns := tab l279
noncomputable def f279_0 (x9 : V) (x10 : V) (x11 : V) (x25 : V) (x47 : V) (x50 : V) (h : HT) : Option J := bndC (gsel x47 true (retV (rLd h x50) h) h) fun x51 h =>
  bndV (rPick x47 x51 (.bool false)) fun x52 =>
  bndJ (tstv x52 (bndV (rAdd x9 (.int .i64 (.ofNat (nat_lit 1)))) fun x54 =>
  bndV (rLss x10 (.int .i64 (.ofNat (nat_lit 0)))) fun x56 =>
  bndJ (tstv x56 (some ⟨0, [x25], h⟩)
  (some ⟨0, [x10], h⟩))
  fun j vs h => unc1 vs fun x10_1 =>
  some ⟨0, [x54, x10_1], h⟩)
  (some ⟨0, [x9, x10], h⟩))
  fun j vs h => unc2 vs fun x9 x10 =>
  some ⟨0, [x9, x10, x11], h⟩
noncomputable def f279_1 (rc : List V → HT → Option J) (x1 : V) (x9 : V) (x10 : V) (x11 : V) (x13 : V) (x25 : V) (x40 : V) (h : HT) : Option J := bndV (rLd h x40) fun x41 =>
  bndV (rEql x41 x1) fun x43 =>
  bndJ (tstv x43 (some ⟨0, [x9, x10, (.bool true)], h⟩)
  (bndV (rFa 1 x13) fun x44 =>
  bndV (rFa 0 x44) fun x45 =>
  bndV (rLd h x45) fun x46 =>
  bndV (rEql x46 (.int .i64 (.ofNat (nat_lit 1)))) fun x47 =>
  bndC (gsel x47 true (retV (rFa 1 x13) h) h) fun x49 h =>
  bndC (gsel x47 true (retV (rFa 20 x49) h) h) fun x50 h =>
  (f279_0 x9 x10 x11 x25 x47 x50 h)))
  fun j vs h => unc3 vs fun x9 x10 x11 =>
  bndV (rAdd x25 (.int .i64 (.ofNat (nat_lit 1)))) fun x58 =>
  rc [x9, x10, x11, x58] h
noncomputable def f279_2 (rc : List V → HT → Option J) (x1 : V) (x7 : V) (x8 : V) (x9 : V) (x10 : V) (x11 : V) (x13 : V) (x25 : V) (x31 : V) (h : HT) : Option J := bndV (rLd h x31) fun x32 =>
  bndV (rEql x32 (.int .i64 (.ofNat (nat_lit 3)))) fun x33 =>
  tstv x33 (bndV (rFa 1 x13) fun x34 =>
  bndV (rFa 5 x34) fun x35 =>
  bndV (rLdN h 7 x35) fun x36 =>
  bndV (rFa 1 x13) fun x37 =>
  bndV (rFa 12 x37) fun x38 =>
  bndV (rLdN h 8 x38) fun x39 =>
  bndE (rSt h 7 x7 x36) h fun _ h =>
  chk1 (sameE (rLdN h 8 x38) x39) (bndE (rSt h 8 x8 x39) h fun _ h =>
  some ⟨1, [(.int .i64 (.ofNat (nat_lit 1)))], h⟩))
  (bndV (rFa 0 x13) fun x40 =>
  (f279_1 rc x1 x9 x10 x11 x13 x25 x40 h))
noncomputable def f279_3 (x2 : V) (x7 : V) (x8 : V) (x10 : V) (x76 : V) (x88 : V) (h : HT) : Option J := tstv x88 (bndV (rIaS 22 x2 x10) fun x91 =>
  bndV (rFa 1 x91) fun x92 =>
  bndV (rFa 5 x92) fun x93 =>
  bndV (rLdN h 7 x93) fun x94 =>
  bndV (rIaS 22 x2 x10) fun x97 =>
  bndV (rFa 1 x97) fun x98 =>
  bndV (rFa 12 x98) fun x99 =>
  bndV (rLdN h 8 x99) fun x100 =>
  bndE (rSt h 7 x7 x94) h fun _ h =>
  chk1 (sameE (rLdN h 8 x99) x100) (bndE (rSt h 8 x8 x100) h fun _ h =>
  bndV (qLd h (some 7) [x7]) fun x900000 =>
  bndV (qLd h (some 8) [x8]) fun x900001 =>
  ret1 (.tuple [(.int .i64 (.ofNat (nat_lit 2))), x900000, x900001]) h))
  (bndV (rIaS 22 x2 x76) fun x103 =>
  bndV (rFa 1 x103) fun x104 =>
  bndV (rFa 5 x104) fun x105 =>
  bndV (rLdN h 7 x105) fun x106 =>
  bndV (rIaS 22 x2 x76) fun x109 =>
  bndV (rFa 1 x109) fun x110 =>
  bndV (rFa 12 x110) fun x111 =>
  bndV (rLdN h 8 x111) fun x112 =>
  bndE (rSt h 7 x7 x106) h fun _ h =>
  chk1 (sameE (rLdN h 8 x111) x112) (bndE (rSt h 8 x8 x112) h fun _ h =>
  bndV (qLd h (some 7) [x7]) fun x900000 =>
  bndV (qLd h (some 8) [x8]) fun x900001 =>
  ret1 (.tuple [(.int .i64 (.ofNat (nat_lit 3))), x900000, x900001]) h))
noncomputable def f279_4 (x0 : V) (x2 : V) (x7 : V) (x8 : V) (x9 : V) (x10 : V) (x11 : V) (x76 : V) (x78 : V) (h : HT) : Option J := tstv x78 (bndV (rBld [(.int .i64 (.ofNat (nat_lit 0))), (.int .i64 (.ofNat (nat_lit 0))), (.int .i64 (.ofNat (nat_lit 0))), (.str (sb [])), (.str (sb [])), (.str (sb [])), (.str (sb []))] [] []) fun x79 =>
  bndV (rBld [(.int .i64 (.ofNat (nat_lit 0))), (.int .i64 (.ofNat (nat_lit 0))), (.int .i64 (.ofNat (nat_lit 0))), (.int .i64 (.ofNat (nat_lit 0))), (.int .i64 (.ofNat (nat_lit 0))), (.int .i64 (.ofNat (nat_lit 0))), (.int .i64 (.ofNat (nat_lit 0))), (.int .i64 (.ofNat (nat_lit 0)))] [] []) fun x80 =>
  bndE (rSt h 7 x7 x79) h fun _ h =>
  bndE (rSt h 8 x8 x80) h fun _ h =>
  bndV (qLd h (some 7) [x7]) fun x900000 =>
  bndV (qLd h (some 8) [x8]) fun x900001 =>
  ret1 (.tuple [(.int .i64 (.ofNat (nat_lit 4))), x900000, x900001]) h)
  (bndV (rNot x11) fun x82 =>
  bndC (gsel x82 true (retV (kMov [x9]) h) h) fun x84 h =>
  bndC (gsel x82 true (retV (kMov [x0]) h) h) fun x85 h =>
  bndC (gsel x82 true (retV (qBin .quo [x85, (.int .i64 (.ofNat (nat_lit 2)))]) h) h) fun x86 h =>
  bndC (gsel x82 true (retV (rGeq x84 x86) h) h) fun x87 h =>
  bndV (rPick x82 x87 (.bool false)) fun x88 =>
  (f279_3 x2 x7 x8 x10 x76 x88 h))
noncomputable def f279_5 (x0 : V) (x2 : V) (x7 : V) (x8 : V) (x9 : V) (x10 : V) (x11 : V) (x60 : V) (x62 : V) (h : HT) : Option J := tstv x62 (bndV (rIaS 22 x2 x60) fun x65 =>
  bndV (rFa 1 x65) fun x66 =>
  bndV (rFa 5 x66) fun x67 =>
  bndV (rLdN h 7 x67) fun x68 =>
  bndV (rIaS 22 x2 x60) fun x71 =>
  bndV (rFa 1 x71) fun x72 =>
  bndV (rFa 12 x72) fun x73 =>
  bndV (rLdN h 8 x73) fun x74 =>
  bndE (rSt h 7 x7 x68) h fun _ h =>
  chk1 (sameE (rLdN h 8 x73) x74) (bndE (rSt h 8 x8 x74) h fun _ h =>
  bndV (qLd h (some 7) [x7]) fun x900000 =>
  bndV (qLd h (some 8) [x8]) fun x900001 =>
  ret1 (.tuple [(.int .i64 (.ofNat (nat_lit 2))), x900000, x900001]) h))
  (bndC (f330 [x2, (.int .i64 (.ofNat (nat_lit 1)))] h) fun x76 h =>
  bndV (rLss x76 (.int .i64 (.ofNat (nat_lit 0)))) fun x78 =>
  (f279_4 x0 x2 x7 x8 x9 x10 x11 x76 x78 h))
noncomputable def f279_6 (x0 : V) (x1 : V) (x2 : V) (x7 : V) (x8 : V) (x24 : V) (h : HT) : Option J := bndJ (loopF (fun rc vs h => unc4 vs fun x9 x10 x11 x25 vs =>
  bndV (rLss x25 x24) fun x26 =>
  tstv x26 (bndV (rIaS 22 x2 x25) fun x28 =>
  bndV (rLdN h 22 x28) fun x29 =>
  bndN (rAlloc [(.int .i64 (.ofNat (nat_lit 0))), (.int .i64 (.ofNat (nat_lit 0))), (.int .i64 (.ofNat (nat_lit 0))), (.int .i64 (.ofNat (nat_lit 0))), (.int .i64 (.ofNat (nat_lit 0))), (.int .i64 (.ofNat (nat_lit 0))), (.int .i64 (.ofNat (nat_lit 0))), (.int .i64 (.ofNat (nat_lit 0))), (.int .i64 (.ofNat (nat_lit 0))), (.str (sb [])), (.str (sb [])), (.str (sb [])), (.str (sb [])), (.int .i64 (.ofNat (nat_lit 0))), (.int .i64 (.ofNat (nat_lit 0))), (.int .i64 (.ofNat (nat_lit 0))), (.int .i64 (.ofNat (nat_lit 0))), (.int .i64 (.ofNat (nat_lit 0))), (.int .i64 (.ofNat (nat_lit 0))), (.int .i64 (.ofNat (nat_lit 0))), (.int .i64 (.ofNat (nat_lit 0))), (.bool false)] []) h fun x13 h =>
  bndE (rSt h 22 x13 x29) h fun _ h =>
  bndV (rFa 1 x13) fun x30 =>
  bndV (rFa 0 x30) fun x31 =>
  (f279_2 rc x1 x7 x8 x9 x10 x11 x13 x25 x31 h))
  (some ⟨0, [x9, x10, x11], h⟩)) 1000000 [(.int .i64 (.ofNat (nat_lit 0))), (.int .i64 (.negSucc (nat_lit 0))), (.bool false), (.int .i64 (.ofNat (nat_lit 0)))] h)
  fun j vs h => nsw j (unc3 vs fun x9 x10 x11 =>
  bndC (f330 [x2, (.int .i64 (.ofNat (nat_lit 2)))] h) fun x60 h =>
  bndV (rGeq x60 (.int .i64 (.ofNat (nat_lit 0)))) fun x62 =>
  (f279_5 x0 x2 x7 x8 x9 x10 x11 x60 x62 h))
  fun j => unc1 vs fun x6 =>
  bndV (qLd h (some 7) [x7]) fun x900000 =>
  bndV (qLd h (some 8) [x8]) fun x900001 =>
  ret1 (.tuple [x6, x900000, x900001]) h
noncomputable def f279_7 (x0 : V) (x1 : V) (x2 : V) (h : HT) : Option J := bndN (rAlloc [(.int .i64 (.ofNat (nat_lit 0))), (.int .i64 (.ofNat (nat_lit 0))), (.int .i64 (.ofNat (nat_lit 0))), (.str (sb [])), (.str (sb [])), (.str (sb [])), (.str (sb []))] []) h fun x7 h =>
  bndN (rAlloc [(.int .i64 (.ofNat (nat_lit 0))), (.int .i64 (.ofNat (nat_lit 0))), (.int .i64 (.ofNat (nat_lit 0))), (.int .i64 (.ofNat (nat_lit 0))), (.int .i64 (.ofNat (nat_lit 0))), (.int .i64 (.ofNat (nat_lit 0))), (.int .i64 (.ofNat (nat_lit 0))), (.int .i64 (.ofNat (nat_lit 0)))] []) h fun x8 h =>
  bndV (rLenS x2) fun x17 =>
  bndC (f217 [x0] h) fun x19 h =>
  bndV (rLss x17 x19) fun x20 =>
  tstv x20 (bndV (rBld [(.int .i64 (.ofNat (nat_lit 0))), (.int .i64 (.ofNat (nat_lit 0))), (.int .i64 (.ofNat (nat_lit 0))), (.str (sb [])), (.str (sb [])), (.str (sb [])), (.str (sb []))] [] []) fun x21 =>
  bndV (rBld [(.int .i64 (.ofNat (nat_lit 0))), (.int .i64 (.ofNat (nat_lit 0))), (.int .i64 (.ofNat (nat_lit 0))), (.int .i64 (.ofNat (nat_lit 0))), (.int .i64 (.ofNat (nat_lit 0))), (.int .i64 (.ofNat (nat_lit 0))), (.int .i64 (.ofNat (nat_lit 0))), (.int .i64 (.ofNat (nat_lit 0)))] [] []) fun x22 =>
  bndE (rSt h 7 x7 x21) h fun _ h =>
  bndE (rSt h 8 x8 x22) h fun _ h =>
  bndV (qLd h (some 7) [x7]) fun x900000 =>
  bndV (qLd h (some 8) [x8]) fun x900001 =>
  ret1 (.tuple [(.int .i64 (.ofNat (nat_lit 0))), x900000, x900001]) h)
  (bndV (rLenS x2) fun x24 =>
  (f279_6 x0 x1 x2 x7 x8 x24 h))
noncomputable def f279 (vs : List V) (h : HT) : Option J := unc3 vs fun x0 x1 x2 =>
  (f279_7 x0 x1 x2 h)

/- (*concord/core.Core).again -/
noncomputable def l281 : List (Nat × (List V → HT → Option J)) := [(101, f101), (126, f126), (127, f127), (128, f128), (276, f276)]
noncomputable def t281 : Fns := tab l281
noncomputable def f281_0 (x0 : V) (x1 : V) (x6 : V) (x8 : V) (x44 : V) (h : HT) : Option J := tstv x44 (bndV (rNilc x1) fun x47 =>
  bndV (rFa 0 x47) fun x48 =>
  bndV (rLdN h 2 x48) fun x49 =>
  bndC (noF [x0, x49] h) fun x50 h =>
  ret1 (.tuple []) h)
  (bndV (rNilc x1) fun x53 =>
  bndV (rFa 0 x53) fun x54 =>
  bndV (rLdN h 2 x54) fun x55 =>
  bndV (rNilc x1) fun x57 =>
  bndV (rFa 3 x57) fun x58 =>
  bndV (rLdN h 2 x58) fun x59 =>
  bndV (rLdN h 7 x6) fun x60 =>
  bndV (rLdN h 8 x8) fun x61 =>
  bndV (rBld [(.int .i64 (.ofNat (nat_lit 0))), (.int .i64 (.ofNat (nat_lit 0))), (.int .i64 (.ofNat (nat_lit 0))), (.int .i64 (.ofNat (nat_lit 0))), (.int .i64 (.ofNat (nat_lit 0))), (.bool false), (.int .i64 (.ofNat (nat_lit 0))), (.int .i64 (.ofNat (nat_lit 0))), (.int .i64 (.ofNat (nat_lit 0))), (.str (sb [])), (.str (sb [])), (.str (sb [])), (.str (sb [])), (.int .i64 (.ofNat (nat_lit 0))), (.int .i64 (.ofNat (nat_lit 0))), (.int .i64 (.ofNat (nat_lit 0))), (.int .i64 (.ofNat (nat_lit 0))), (.int .i64 (.ofNat (nat_lit 0))), (.int .i64 (.ofNat (nat_lit 0))), (.int .i64 (.ofNat (nat_lit 0))), (.int .i64 (.ofNat (nat_lit 0))), (.int .i64 (.ofNat (nat_lit 0))), (.int .i64 (.ofNat (nat_lit 0))), (.int .i64 (.ofNat (nat_lit 0))), (.int .i64 (.ofNat (nat_lit 0))), (.int .i64 (.ofNat (nat_lit 0))), (.int .i64 (.ofNat (nat_lit 0))), (.int .i64 (.ofNat (nat_lit 0))), (.slice none 0 true 0), (.slice none 0 true 0), (.int .i64 (.ofNat (nat_lit 0))), (.int .i64 (.ofNat (nat_lit 0)))] [(0, 2), (2, 1), (3, 2), (6, 7), (13, 8)] [x55, (.int .i64 (.ofNat (nat_lit 0))), x59, x60, x61]) fun x62 =>
  bndN (rBox x62) h fun x63 h =>
  bndC (f128 [x0, x63] h) fun x64 h =>
  ret1 (.tuple []) h)
noncomputable def f281_1 (x0 : V) (x1 : V) (x6 : V) (x8 : V) (x24 : V) (x26 : V) (x30 : V) (h : HT) : Option J := bndC (gsel x24 false (retV (kMov [x1]) h) h) fun x31 h =>
  bndC (gsel x24 false (retV (rNilc x31) h) h) fun x32 h =>
  bndC (gsel x24 false (retV (rFa 3 x32) h) h) fun x33 h =>
  bndC (gsel x24 false (retV (rLdN h 2 x33) h) h) fun x34 h =>
  bndC (gsel x24 false (retV (kMov [x1]) h) h) fun x35 h =>
  bndC (gsel x24 false (retV (rNilc x35) h) h) fun x36 h =>
  bndC (gsel x24 false (retV (rFa 3 x36) h) h) fun x37 h =>
  bndC (gsel x24 false (retV (rLdN h 2 x37) h) h) fun x38 h =>
  bndC (gsel x24 false (retV (rLdN h 7 x6) h) h) fun x39 h =>
  bndC (gsel x24 false (retV (rLdN h 8 x8) h) h) fun x40 h =>
  bndC (gsel x24 false (retV (rBld [(.int .i64 (.ofNat (nat_lit 0))), (.int .i64 (.ofNat (nat_lit 0))), (.int .i64 (.ofNat (nat_lit 0))), (.int .i64 (.ofNat (nat_lit 0))), (.int .i64 (.ofNat (nat_lit 0))), (.int .i64 (.ofNat (nat_lit 0))), (.int .i64 (.ofNat (nat_lit 0))), (.int .i64 (.ofNat (nat_lit 0))), (.str (sb [])), (.str (sb [])), (.str (sb [])), (.str (sb [])), (.int .i64 (.ofNat (nat_lit 0))), (.int .i64 (.ofNat (nat_lit 0))), (.int .i64 (.ofNat (nat_lit 0))), (.int .i64 (.ofNat (nat_lit 0))), (.int .i64 (.ofNat (nat_lit 0))), (.int .i64 (.ofNat (nat_lit 0))), (.int .i64 (.ofNat (nat_lit 0))), (.int .i64 (.ofNat (nat_lit 0))), (.bool false)] [(0, 1), (1, 2), (3, 2), (5, 7), (12, 8)] [(.int .i64 (.ofNat (nat_lit 1))), x34, x38, x39, x40]) h) h) fun x41 h =>
  bndC (gsel x24 false (f127 [x26, x30, x41] h) h) fun x42 h =>
  bndC (gsel x24 false (retV (rNot x42) h) h) fun x43 h =>
  bndV (rPick x24 (.bool true) x43) fun x44 =>
  (f281_0 x0 x1 x6 x8 x44 h)
noncomputable def f281_2 (x0 : V) (x1 : V) (x6 : V) (x7 : V) (x9 : V) (x13 : V) (x17 : V) (x18 : V) (h : HT) : Option J := bndN (rAlloc [(.int .i64 (.ofNat (nat_lit 0))), (.int .i64 (.ofNat (nat_lit 0))), (.int .i64 (.ofNat (nat_lit 0))), (.int .i64 (.ofNat (nat_lit 0))), (.int .i64 (.ofNat (nat_lit 0))), (.int .i64 (.ofNat (nat_lit 0))), (.int .i64 (.ofNat (nat_lit 0))), (.int .i64 (.ofNat (nat_lit 0)))] []) h fun x8 h =>
  bndC (f126 [x13, x17, x18] h) fun x19 h =>
  chk1 (sameE (rLdN h 8 x7) x9) (bndN (rBsl 8 2 [(.int .i64 (.ofNat (nat_lit 0))), (.int .i64 (.ofNat (nat_lit 0))), (.int .i64 (.ofNat (nat_lit 0))), (.int .i64 (.ofNat (nat_lit 0))), (.int .i64 (.ofNat (nat_lit 0))), (.int .i64 (.ofNat (nat_lit 0))), (.int .i64 (.ofNat (nat_lit 0))), (.int .i64 (.ofNat (nat_lit 0))), (.int .i64 (.ofNat (nat_lit 0))), (.int .i64 (.ofNat (nat_lit 0))), (.int .i64 (.ofNat (nat_lit 0))), (.int .i64 (.ofNat (nat_lit 0))), (.int .i64 (.ofNat (nat_lit 0))), (.int .i64 (.ofNat (nat_lit 0))), (.int .i64 (.ofNat (nat_lit 0))), (.int .i64 (.ofNat (nat_lit 0)))] [(0, 8), (8, 8)] [x9, x19]) h fun x20 h =>
  bndC (f276 [x20] h) fun x21 h =>
  bndE (rSt h 8 x8 x21) h fun _ h =>
  bndV (rLdN h 8 x8) fun x22 =>
  bndC (f101 [x22] h) fun x23 h =>
  bndV (rNot x23) fun x24 =>
  bndC (gsel x24 false (retV (kMov [x0]) h) h) fun x26 h =>
  bndC (gsel x24 false (retV (kMov [x1]) h) h) fun x27 h =>
  bndC (gsel x24 false (retV (rNilc x27) h) h) fun x28 h =>
  bndC (gsel x24 false (retV (rFa 0 x28) h) h) fun x29 h =>
  bndC (gsel x24 false (retV (rLdN h 2 x29) h) h) fun x30 h =>
  (f281_1 x0 x1 x6 x8 x24 x26 x30 h))
noncomputable def f281 (vs : List V) (h : HT) : Option J := unc4 vs fun x0 x1 x2 x3 vs =>
  bndN (rBox x2) h fun x6 h =>
  bndN (rBox x3) h fun x7 h =>
  bndV (rLdN h 8 x7) fun x9 =>
  bndV (rNilc x0) fun x11 =>
  bndV (rFa 3 x11) fun x12 =>
  bndV (rLd h x12) fun x13 =>
  bndV (rNilc x1) fun x15 =>
  bndV (rFa 0 x15) fun x16 =>
  bndV (rLdN h 2 x16) fun x17 =>
  bndV (rLdN h 7 x6) fun x18 =>
  (f281_2 x0 x1 x6 x7 x9 x13 x17 x18 h)

/- (*concord/core.Core).prepared -/
noncomputable def l219 : List (Nat × (List V → HT → Option J)) := [(279, f279), (281, f281)]
noncomputable def t219 : Fns := tab l219
noncomputable def f219_0 (x0 : V) (x1 : V) (x5 : V) (x6 : V) (x22 : V) (x44 : V) (h : HT) : Option J := tstv x44 (bndV (rBld [(.int .i64 (.ofNat (nat_lit 0))), (.int .i64 (.ofNat (nat_lit 0))), (.int .i64 (.ofNat (nat_lit 0))), (.str (sb [])), (.str (sb [])), (.str (sb [])), (.str (sb []))] [] []) fun x47 =>
  bndV (rNilc x1) fun x49 =>
  bndV (rFa 0 x49) fun x50 =>
  bndV (rLdN h 2 x50) fun x51 =>
  bndC (noF [x51] h) fun x52 h =>
  bndC (noF [x0, x1, x47, x52] h) fun x53 h =>
  ret1 (.tuple []) h)
  (bndV (rEql x22 (.int .i64 (.ofNat (nat_lit 3)))) fun x55 =>
  tstv x55 (bndV (rLdN h 7 x5) fun x58 =>
  bndV (rLdN h 8 x6) fun x59 =>
  bndC (f281 [x0, x1, x58, x59] h) fun x60 h =>
  ret1 (.tuple []) h)
  (ret1 (.tuple []) h))
noncomputable def f219_1 (x0 : V) (x1 : V) (x5 : V) (x6 : V) (x22 : V) (x27 : V) (h : HT) : Option J := tstv x27 (bndV (rNilc x1) fun x30 =>
  bndV (rFa 0 x30) fun x31 =>
  bndV (rLdN h 2 x31) fun x32 =>
  bndV (rLdN h 7 x5) fun x33 =>
  bndV (rLdN h 8 x6) fun x34 =>
  bndC (noF [x0, x32, x33, x34] h) fun x35 h =>
  ret1 (.tuple []) h)
  (bndV (rEql x22 (.int .i64 (.ofNat (nat_lit 2)))) fun x37 =>
  tstv x37 (bndV (rLdN h 7 x5) fun x40 =>
  bndV (rLdN h 8 x6) fun x41 =>
  bndC (noF [x0, x1, x40, x41] h) fun x42 h =>
  ret1 (.tuple []) h)
  (bndV (rEql x22 (.int .i64 (.ofNat (nat_lit 4)))) fun x44 =>
  (f219_0 x0 x1 x5 x6 x22 x44 h)))
noncomputable def f219_2 (x0 : V) (x1 : V) (x11 : V) (x14 : V) (h : HT) : Option J := bndV (rFa 0 x14) fun x15 =>
  bndV (rLd h x15) fun x16 =>
  bndV (rNilc x1) fun x18 =>
  bndV (rFa 29 x18) fun x19 =>
  bndV (rLd h x19) fun x20 =>
  bndN (rAlloc [(.int .i64 (.ofNat (nat_lit 0))), (.int .i64 (.ofNat (nat_lit 0))), (.int .i64 (.ofNat (nat_lit 0))), (.str (sb [])), (.str (sb [])), (.str (sb [])), (.str (sb []))] []) h fun x5 h =>
  bndN (rAlloc [(.int .i64 (.ofNat (nat_lit 0))), (.int .i64 (.ofNat (nat_lit 0))), (.int .i64 (.ofNat (nat_lit 0))), (.int .i64 (.ofNat (nat_lit 0))), (.int .i64 (.ofNat (nat_lit 0))), (.int .i64 (.ofNat (nat_lit 0))), (.int .i64 (.ofNat (nat_lit 0))), (.int .i64 (.ofNat (nat_lit 0)))] []) h fun x6 h =>
  bndC (f279 [x11, x16, x20] h) fun x21 h =>
  bndV (rExt 0 x21) fun x22 =>
  bndV (rExt 1 x21) fun x23 =>
  bndV (rExt 2 x21) fun x24 =>
  bndE (rSt h 7 x5 x23) h fun _ h =>
  bndE (rSt h 8 x6 x24) h fun _ h =>
  bndV (rEql x22 (.int .i64 (.ofNat (nat_lit 1)))) fun x27 =>
  (f219_1 x0 x1 x5 x6 x22 x27 h)
noncomputable def f219 (vs : List V) (h : HT) : Option J := unc2 vs fun x0 x1 =>
  bndV (rNilc x0) fun x9 =>
  bndV (rFa 0 x9) fun x10 =>
  bndV (rLd h x10) fun x11 =>
  bndV (rNilc x1) fun x13 =>
  bndV (rFa 0 x13) fun x14 =>
  (f219_2 x0 x1 x11 x14 h)

/- (*concord/core.Core).answered -/
noncomputable def l143 : List (Nat × (List V → HT → Option J)) := [(212, f212), (216, f216), (217, f217), (218, f218), (219, f219)]
noncomputable def t143 : Fns := tab l143
noncomputable def f143_0 (x0 : V) (x9 : V) (x93 : V) (x94 : V) (x95 : V) (x100 : V) (h : HT) : Option J := chk1 (sameE (rLd h x93) x94) (bndV (rGeq x95 x100) fun x101 =>
  tstv x101 (bndV (rNilc x9) fun x104 =>
  bndV (rFa 0 x104) fun x105 =>
  bndV (rLdN h 2 x105) fun x106 =>
  bndV (rNilc x9) fun x108 =>
  bndV (rFa 6 x108) fun x109 =>
  bndV (rLdN h 7 x109) fun x110 =>
  bndV (rNilc x9) fun x112 =>
  bndV (rFa 13 x112) fun x113 =>
  bndV (rLdN h 8 x113) fun x114 =>
  bndC (f218 [x0, x106, x110, x114] h) fun x115 h =>
  ret1 (.tuple []) h)
  (ret1 (.tuple []) h))
noncomputable def f143_1 (x0 : V) (x3 : V) (x9 : V) (h : HT) : Option J := bndV (rNilc x9) fun x58 =>
  bndV (rFa 29 x58) fun x59 =>
  bndV (rLd h x59) fun x60 =>
  bndV (rFa 1 x3) fun x61 =>
  bndV (rLd h x61) fun x62 =>
  bndV (rFa 22 x3) fun x63 =>
  bndV (rLdN h 21 x63) fun x64 =>
  bndV (rBld [(.int .i64 (.ofNat (nat_lit 0))), (.int .i64 (.ofNat (nat_lit 0))), (.int .i64 (.ofNat (nat_lit 0))), (.int .i64 (.ofNat (nat_lit 0))), (.int .i64 (.ofNat (nat_lit 0))), (.int .i64 (.ofNat (nat_lit 0))), (.int .i64 (.ofNat (nat_lit 0))), (.int .i64 (.ofNat (nat_lit 0))), (.int .i64 (.ofNat (nat_lit 0))), (.str (sb [])), (.str (sb [])), (.str (sb [])), (.str (sb [])), (.int .i64 (.ofNat (nat_lit 0))), (.int .i64 (.ofNat (nat_lit 0))), (.int .i64 (.ofNat (nat_lit 0))), (.int .i64 (.ofNat (nat_lit 0))), (.int .i64 (.ofNat (nat_lit 0))), (.int .i64 (.ofNat (nat_lit 0))), (.int .i64 (.ofNat (nat_lit 0))), (.int .i64 (.ofNat (nat_lit 0))), (.bool false)] [(0, 1), (1, 21)] [x62, x64]) fun x65 =>
  bndN (rBsl 22 1 [(.int .i64 (.ofNat (nat_lit 0))), (.int .i64 (.ofNat (nat_lit 0))), (.int .i64 (.ofNat (nat_lit 0))), (.int .i64 (.ofNat (nat_lit 0))), (.int .i64 (.ofNat (nat_lit 0))), (.int .i64 (.ofNat (nat_lit 0))), (.int .i64 (.ofNat (nat_lit 0))), (.int .i64 (.ofNat (nat_lit 0))), (.int .i64 (.ofNat (nat_lit 0))), (.str (sb [])), (.str (sb [])), (.str (sb [])), (.str (sb [])), (.int .i64 (.ofNat (nat_lit 0))), (.int .i64 (.ofNat (nat_lit 0))), (.int .i64 (.ofNat (nat_lit 0))), (.int .i64 (.ofNat (nat_lit 0))), (.int .i64 (.ofNat (nat_lit 0))), (.int .i64 (.ofNat (nat_lit 0))), (.int .i64 (.ofNat (nat_lit 0))), (.int .i64 (.ofNat (nat_lit 0))), (.bool false)] [(0, 22)] [x65]) h fun x66 h =>
  bndE (dApp h 22 208 [x60, x66]) h fun x67 h =>
  bndV (rNilc x9) fun x68 =>
  bndV (rFa 29 x68) fun x69 =>
  bndE (rSt h 1 x69 x67) h fun _ h =>
  bndC (f219 [x0, x9] h) fun x72 h =>
  ret1 (.tuple []) h
noncomputable def f143_2 (x0 : V) (x3 : V) (x9 : V) (x35 : V) (x74 : V) (h : HT) : Option J := tstv x74 (bndV (rNilc x9) fun x77 =>
  bndV (rFa 28 x77) fun x78 =>
  bndV (rLd h x78) fun x79 =>
  bndV (rFa 14 x3) fun x80 =>
  bndV (rLdN h 8 x80) fun x81 =>
  bndN (rBsl 8 1 [(.int .i64 (.ofNat (nat_lit 0))), (.int .i64 (.ofNat (nat_lit 0))), (.int .i64 (.ofNat (nat_lit 0))), (.int .i64 (.ofNat (nat_lit 0))), (.int .i64 (.ofNat (nat_lit 0))), (.int .i64 (.ofNat (nat_lit 0))), (.int .i64 (.ofNat (nat_lit 0))), (.int .i64 (.ofNat (nat_lit 0)))] [(0, 8)] [x81]) h fun x82 h =>
  bndE (dApp h 8 64 [x79, x82]) h fun x83 h =>
  bndV (rNilc x9) fun x84 =>
  bndV (rFa 28 x84) fun x85 =>
  bndE (rSt h 1 x85 x83) h fun _ h =>
  bndC (f216 [x0, x9, (.bool false)] h) fun x88 h =>
  ret1 (.tuple []) h)
  (bndV (rEql x35 (.int .i64 (.ofNat (nat_lit 1)))) fun x90 =>
  tstv x90 (bndV (rNilc x9) fun x92 =>
  bndV (rFa 30 x92) fun x93 =>
  bndV (rLd h x93) fun x94 =>
  bndV (rAdd x94 (.int .i64 (.ofNat (nat_lit 1)))) fun x95 =>
  bndV (rNilc x0) fun x97 =>
  bndV (rFa 0 x97) fun x98 =>
  bndV (rLd h x98) fun x99 =>
  bndC (f217 [x99] h) fun x100 h =>
  (f143_0 x0 x9 x93 x94 x95 x100 h))
  ((f143_1 x0 x3 x9 h)))
noncomputable def f143_3 (x0 : V) (x3 : V) (x9 : V) (x35 : V) (h : HT) : Option J := bndV (rFa 1 x3) fun x43 =>
  bndV (rLd h x43) fun x44 =>
  bndV (rNilc x9) fun x45 =>
  bndV (rFa 21 x45) fun x46 =>
  bndV (rIaA 7 1 x46 x44) fun x47 =>
  bndE (rSt h 1 x47 (.int .i64 (.ofNat (nat_lit 1)))) h fun _ h =>
  bndV (rNilc x9) fun x49 =>
  bndV (rFa 30 x49) fun x50 =>
  bndV (rLd h x50) fun x51 =>
  bndV (rAdd x51 (.int .i64 (.ofNat (nat_lit 1)))) fun x52 =>
  bndV (rNilc x9) fun x53 =>
  bndV (rFa 30 x53) fun x54 =>
  bndE (rSt h 1 x54 x52) h fun _ h =>
  bndV (rEql x35 (.int .i64 (.ofNat (nat_lit 0)))) fun x74 =>
  (f143_2 x0 x3 x9 x35 x74 h)
noncomputable def f143_4 (x0 : V) (x3 : V) (x9 : V) (x30 : V) (h : HT) : Option J := tstv x30 (ret1 (.tuple []) h)
  (bndN (kMkM []) h fun x31 h =>
  bndE (dMset h false [.i] [x31, (.int .i64 (.ofNat (nat_lit 2))), (.int .i64 (.ofNat (nat_lit 0)))]) h fun _ h =>
  bndE (dMset h false [.i] [x31, (.int .i64 (.ofNat (nat_lit 4))), (.int .i64 (.ofNat (nat_lit 1)))]) h fun _ h =>
  bndE (dMset h false [.i] [x31, (.int .i64 (.ofNat (nat_lit 7))), (.int .i64 (.ofNat (nat_lit 2)))]) h fun _ h =>
  bndV (rFa 0 x3) fun x33 =>
  bndV (rLd h x33) fun x34 =>
  bndV (kLkp h.heap false [.i] (.int .i64 (.ofNat (nat_lit 0))) false [x31, x34]) fun x35 =>
  bndV (rNilc x9) fun x37 =>
  bndV (rFa 2 x37) fun x38 =>
  bndV (rLd h x38) fun x39 =>
  bndV (rNeq x39 x35) fun x41 =>
  tstv x41 (ret1 (.tuple []) h)
  ((f143_3 x0 x3 x9 x35 h)))
noncomputable def f143_5 (x0 : V) (x3 : V) (x9 : V) (x11 : V) (x15 : V) (h : HT) : Option J := bndC (gsel x11 false (retV (rLdN h 2 x15) h) h) fun x16 h =>
  bndC (gsel x11 false (retV (rFa 5 x3) h) h) fun x17 h =>
  bndC (gsel x11 false (retV (rLdN h 2 x17) h) h) fun x18 h =>
  bndC (gsel x11 false (retV (kEqF true [.i, .i] [x16, x18]) h) h) fun x19 h =>
  bndV (rPick x11 (.bool true) x19) fun x20 =>
  bndC (gsel x20 false (retV (kMov [x9]) h) h) fun x22 h =>
  bndC (gsel x20 false (retV (rFa 1 x3) h) h) fun x23 h =>
  bndC (gsel x20 false (retV (rLd h x23) h) h) fun x24 h =>
  bndC (gsel x20 false (retV (rNilc x22) h) h) fun x25 h =>
  bndC (gsel x20 false (retV (rFa 21 x25) h) h) fun x26 h =>
  bndC (gsel x20 false (retV (rIaA 7 1 x26 x24) h) h) fun x27 h =>
  bndC (gsel x20 false (retV (rLd h x27) h) h) fun x28 h =>
  bndC (gsel x20 false (retV (rNeq x28 (.int .i64 (.ofNat (nat_lit 0)))) h) h) fun x29 h =>
  bndV (rPick x20 (.bool true) x29) fun x30 =>
  (f143_4 x0 x3 x9 x30 h)
noncomputable def f143 (vs : List V) (h : HT) : Option J := unc2 vs fun x0 x1 =>
  bndN (rBox x1) h fun x3 h =>
  bndV (rFa 3 x3) fun x7 =>
  bndV (rLdN h 2 x7) fun x8 =>
  bndC (f212 [x0, x8] h) fun x9 h =>
  bndV (kEqN false [x9, (.ptr none)]) fun x11 =>
  bndC (gsel x11 false (retV (kMov [x9]) h) h) fun x13 h =>
  bndC (gsel x11 false (retV (rNilc x13) h) h) fun x14 h =>
  bndC (gsel x11 false (retV (rFa 3 x14) h) h) fun x15 h =>
  (f143_5 x0 x3 x9 x11 x15 h)

/- (*concord/core.Core).Take -/
noncomputable def l57 : List (Nat × (List V → HT → Option J)) := [(54, f54), (138, f138), (139, f139), (140, f140), (141, f141), (143, f143)]
noncomputable def t57 : Fns := tab l57
noncomputable def f57_0 (x0 : V) (x3 : V) (x69 : V) (h : HT) : Option J := bndV (rEql x69 (.int .i64 (.ofNat (nat_lit 5)))) fun x70 =>
  tstv x70 (bndV (rLdN h 51 x3) fun x72 =>
  bndC (f141 [x0, x72] h) fun x73 h =>
  ret1 (.bool false) h)
  (bndV (rFa 0 x3) fun x75 =>
  bndV (rLd h x75) fun x76 =>
  bndV (rEql x76 (.int .i64 (.ofNat (nat_lit 8)))) fun x77 =>
  tstv x77 (bndV (rLdN h 51 x3) fun x79 =>
  bndC (noF [x0, x79] h) fun x80 h =>
  ret1 (.bool false) h)
  (bndV (rLdN h 51 x3) fun x60 =>
  bndC (f143 [x0, x60] h) fun x61 h =>
  ret1 (.bool false) h))
noncomputable def f57_1 (x0 : V) (x3 : V) (x50 : V) (h : HT) : Option J := bndV (rNilc x0) fun x52 =>
  bndV (rFa 2 x52) fun x53 =>
  bndV (rLd h x53) fun x54 =>
  bndV (rFa 3 x3) fun x55 =>
  bndV (rLdN h 2 x55) fun x56 =>
  bndC (f139 [x54, x56] h) fun x57 h =>
  tstv x57 (ret1 x50 h)
  (tstv x50 (bndV (rLdN h 51 x3) fun x65 =>
  bndC (f140 [x0, x65] h) fun x66 h =>
  ret1 (.bool false) h)
  (bndV (rFa 0 x3) fun x68 =>
  bndV (rLd h x68) fun x69 =>
  (f57_0 x0 x3 x69 h)))
noncomputable def f57_2 (x0 : V) (x3 : V) (x29 : V) (x36 : V) (h : HT) : Option J := bndV (rPick x29 (.bool true) x36) fun x37 =>
  tstv x37 (ret1 (.bool false) h)
  (bndV (rFa 0 x3) fun x38 =>
  bndV (rLd h x38) fun x39 =>
  bndV (rEql x39 (.int .i64 (.ofNat (nat_lit 1)))) fun x40 =>
  bndC (gsel x40 false (retV (rFa 0 x3) h) h) fun x42 h =>
  bndC (gsel x40 false (retV (rLd h x42) h) h) fun x43 h =>
  bndC (gsel x40 false (retV (rEql x43 (.int .i64 (.ofNat (nat_lit 3)))) h) h) fun x44 h =>
  bndV (rPick x40 (.bool true) x44) fun x45 =>
  bndC (gsel x45 false (retV (rFa 0 x3) h) h) fun x47 h =>
  bndC (gsel x45 false (retV (rLd h x47) h) h) fun x48 h =>
  bndC (gsel x45 false (retV (rEql x48 (.int .i64 (.ofNat (nat_lit 6)))) h) h) fun x49 h =>
  bndV (rPick x45 (.bool true) x49) fun x50 =>
  (f57_1 x0 x3 x50 h))
noncomputable def f57_3 (x0 : V) (x3 : V) (x17 : V) (x19 : V) (x20 : V) (h : HT) : Option J := bndC (gsel x17 false (retV (rLd h x20) h) h) fun x21 h =>
  bndC (gsel x17 false (f138 [x19, x21] h) h) fun x22 h =>
  bndC (gsel x17 false (retV (rNot x22) h) h) fun x23 h =>
  bndV (rPick x17 (.bool true) x23) fun x24 =>
  bndC (gsel x24 false (retV (rFa 0 x3) h) h) fun x26 h =>
  bndC (gsel x24 false (retV (rLd h x26) h) h) fun x27 h =>
  bndC (gsel x24 false (retV (rGeq x27 (.int .i64 (.ofNat (nat_lit 9)))) h) h) fun x28 h =>
  bndV (rPick x24 (.bool true) x28) fun x29 =>
  bndC (gsel x29 false (retV (kMov [x0]) h) h) fun x31 h =>
  bndC (gsel x29 false (retV (rFa 3 x3) h) h) fun x32 h =>
  bndC (gsel x29 false (retV (rFa 0 x32) h) h) fun x33 h =>
  bndC (gsel x29 false (retV (rLd h x33) h) h) fun x34 h =>
  bndC (gsel x29 false (f138 [x31, x34] h) h) fun x35 h =>
  bndC (gsel x29 false (retV (rNot x35) h) h) fun x36 h =>
  (f57_2 x0 x3 x29 x36 h)
noncomputable def f57_4 (x0 : V) (x1 : V) (h : HT) : Option J := bndN (rBox x1) h fun x3 h =>
  bndV (rLdN h 51 x3) fun x6 =>
  bndC (f54 [x6] h) fun x7 h =>
  bndV (rNot x7) fun x8 =>
  bndC (gsel x8 false (retV (rFa 2 x3) h) h) fun x10 h =>
  bndC (gsel x8 false (retV (rLd h x10) h) h) fun x11 h =>
  bndC (gsel x8 false (retV (kMov [x0]) h) h) fun x12 h =>
  bndC (gsel x8 false (retV (rNilc x12) h) h) fun x13 h =>
  bndC (gsel x8 false (retV (rFa 1 x13) h) h) fun x14 h =>
  bndC (gsel x8 false (retV (rLd h x14) h) h) fun x15 h =>
  bndC (gsel x8 false (retV (rNeq x11 x15) h) h) fun x16 h =>
  bndV (rPick x8 (.bool true) x16) fun x17 =>
  bndC (gsel x17 false (retV (kMov [x0]) h) h) fun x19 h =>
  bndC (gsel x17 false (retV (rFa 1 x3) h) h) fun x20 h =>
  (f57_3 x0 x3 x17 x19 x20 h)
noncomputable def f57 (vs : List V) (h : HT) : Option J := unc2 vs fun x0 x1 =>
  (f57_4 x0 x1 h)

/- (*concord/node.Node).Take -/
noncomputable def l16 : List (Nat × (List V → HT → Option J)) := [(44, f44), (45, f45), (54, f54), (55, f55), (57, f57)]
noncomputable def t16 : Fns := tab l16
noncomputable def f16_0 (x0 : V) (x3 : V) (x61 : V) (h : HT) : Option J := tstv x61 (bndV (rFa 50 x3) fun x63 =>
  bndV (rLd h x63) fun x64 =>
  bndN (kS2b [x64]) h fun x65 h =>
  bndC (noF [x0, x65] h) fun x66 h =>
  some ⟨0, [], h⟩)
  (bndV (rNilc x0) fun x35 =>
  bndV (rFa 4 x35) fun x36 =>
  bndV (rLd h x36) fun x37 =>
  bndV (rLdN h 51 x3) fun x38 =>
  bndC (f57 [x37, x38] h) fun x39 h =>
  bndJ (tstv x39 (bndV (rFa 1 x3) fun x41 =>
  bndV (rLd h x41) fun x42 =>
  bndC (noF [x0, x42] h) fun x43 h =>
  some ⟨0, [], h⟩)
  (some ⟨0, [], h⟩))
  fun j vs h => some ⟨0, [], h⟩)
noncomputable def f16_1 (x0 : V) (x3 : V) (x33 : V) (x45 : V) (h : HT) : Option J := tstv x45 (bndV (rNilc x0) fun x47 =>
  bndV (rFa 5 x47) fun x48 =>
  bndV (rLd h x48) fun x49 =>
  bndV (rFa 1 x3) fun x50 =>
  bndV (rLd h x50) fun x51 =>
  bndV (rFa 43 x3) fun x52 =>
  bndV (rLdN h 7 x52) fun x53 =>
  bndC (f44 [x49, x51, x53] h) fun x54 h =>
  some ⟨0, [], h⟩)
  (bndV (rEql x33 (.int .i64 (.ofNat (nat_lit 11)))) fun x56 =>
  bndJ (tstv x56 (bndV (rLdN h 51 x3) fun x58 =>
  bndC (f55 [x0, x58] h) fun x59 h =>
  some ⟨0, [], h⟩)
  (bndV (rEql x33 (.int .i64 (.ofNat (nat_lit 10)))) fun x61 =>
  bndJ ((f16_0 x0 x3 x61 h))
  fun j vs h => some ⟨0, [], h⟩))
  fun j vs h => some ⟨0, [], h⟩)
noncomputable def f16_2 (x0 : V) (x3 : V) (x22 : V) (x25 : V) (h : HT) : Option J := bndC (gsel x22 false (retV (kMov [x0]) h) h) fun x26 h =>
  bndC (gsel x22 false (retV (rNilc x26) h) h) fun x27 h =>
  bndC (gsel x22 false (retV (rFa 0 x27) h) h) fun x28 h =>
  bndC (gsel x22 false (retV (rLd h x28) h) h) fun x29 h =>
  bndC (gsel x22 false (retV (rGeq x25 x29) h) h) fun x30 h =>
  bndV (rPick x22 (.bool true) x30) fun x31 =>
  tstv x31 (ret1 (.bool false) h)
  (bndV (rFa 0 x3) fun x32 =>
  bndV (rLd h x32) fun x33 =>
  bndV (rEql x33 (.int .i64 (.ofNat (nat_lit 9)))) fun x45 =>
  bndJ ((f16_1 x0 x3 x33 x45 h))
  fun j vs h => bndC (f45 [x0] h) fun x68 h =>
  ret1 (.bool true) h)
noncomputable def f16_3 (x0 : V) (x3 : V) (x8 : V) (h : HT) : Option J := bndC (gsel x8 false (retV (rLdN h 51 x3) h) h) fun x10 h =>
  bndC (gsel x8 false (f54 [x10] h) h) fun x11 h =>
  bndC (gsel x8 false (retV (rNot x11) h) h) fun x12 h =>
  bndV (rPick x8 (.bool true) x12) fun x13 =>
  bndC (gsel x13 false (retV (rFa 2 x3) h) h) fun x15 h =>
  bndC (gsel x13 false (retV (rLd h x15) h) h) fun x16 h =>
  bndC (gsel x13 false (retV (kMov [x0]) h) h) fun x17 h =>
  bndC (gsel x13 false (retV (rNilc x17) h) h) fun x18 h =>
  bndC (gsel x13 false (retV (rFa 1 x18) h) h) fun x19 h =>
  bndC (gsel x13 false (retV (rLd h x19) h) h) fun x20 h =>
  bndC (gsel x13 false (retV (rNeq x16 x20) h) h) fun x21 h =>
  bndV (rPick x13 (.bool true) x21) fun x22 =>
  bndC (gsel x22 false (retV (rFa 1 x3) h) h) fun x24 h =>
  bndC (gsel x22 false (retV (rLd h x24) h) h) fun x25 h =>
  (f16_2 x0 x3 x22 x25 h)
noncomputable def f16 (vs : List V) (h : HT) : Option J := unc2 vs fun x0 x1 =>
  bndN (rBox x1) h fun x3 h =>
  bndV (rNilc x0) fun x6 =>
  bndV (rFa 74 x6) fun x7 =>
  bndV (rLd h x7) fun x8 =>
  (f16_3 x0 x3 x8 h)

/- (*concord/node.Node).Out -/
noncomputable def l17 : List (Nat × (List V → HT → Option J)) := []
noncomputable def t17 : Fns := tab l17

noncomputable def f17 (vs : List V) (h : HT) : Option J := unc1 vs fun x0 =>
  bndV (rNilc x0) fun x7 =>
  bndV (rFa 72 x7) fun x8 =>
  bndV (rLd h x8) fun x9 =>
  bndV (rNilc x0) fun x11 =>
  bndV (rFa 73 x11) fun x12 =>
  bndV (rLd h x12) fun x13 =>
  bndV (rNilc x0) fun x16 =>
  bndV (rFa 72 x16) fun x17 =>
  bndE (rSt h 1 x17 (.slice none 0 true 0)) h fun _ h =>
  bndV (rNilc x0) fun x18 =>
  bndV (rFa 73 x18) fun x19 =>
  bndE (rSt h 1 x19 (.slice none 0 true 0)) h fun _ h =>
  ret1 (.tuple [x9, x13]) h

/- (*concord/node.Node).Done -/
noncomputable def l23 : List (Nat × (List V → HT → Option J)) := []
noncomputable def t23 : Fns := tab l23

noncomputable def f23 (vs : List V) (h : HT) : Option J := unc1 vs fun x0 =>
  bndN (rAlloc [(.int .i64 (.ofNat (nat_lit 0))), (.int .i64 (.ofNat (nat_lit 0))), (.int .i64 (.ofNat (nat_lit 0))), (.int .i64 (.ofNat (nat_lit 0))), (.int .i64 (.ofNat (nat_lit 0))), (.int .i64 (.ofNat (nat_lit 0))), (.int .i64 (.ofNat (nat_lit 0)))] []) h fun x2 h =>
  bndV (rNilc x0) fun x4 =>
  bndV (rFa 55 x4) fun x5 =>
  bndV (rLdN h 7 x5) fun x6 =>
  bndE (rSt h 7 x2 x6) h fun _ h =>
  bndV (qLd h (some 7) [x2]) fun x900000 =>
  ret1 x900000 h

/- slices.Equal[[]concord/api.Pair,concord/api.Pair] -/
noncomputable def l119 : List (Nat × (List V → HT → Option J)) := []
noncomputable def t119 : Fns := tab l119
noncomputable def f119_0 (x0 : V) (x1 : V) (x12 : V) (h : HT) : Option J := bndJ (loopF (fun rc vs h => unc1 vs fun x13 =>
  bndV (rLss x13 x12) fun x14 =>
  tstv x14 (bndV (rIaS 3 x0 x13) fun x18 =>
  bndV (rLdN h 3 x18) fun x19 =>
  bndV (rIaS 3 x1 x13) fun x22 =>
  bndV (rLdN h 3 x22) fun x23 =>
  bndV (kEqF true [.s, .s, .i] [x19, x23]) fun x24 =>
  tstv x24 (some ⟨1, [(.bool false)], h⟩)
  (bndV (rAdd x13 (.int .i64 (.ofNat (nat_lit 1)))) fun x25 =>
  rc [x25] h))
  (some ⟨0, [], h⟩)) 1000000 [(.int .i64 (.ofNat (nat_lit 0)))] h)
  fun j vs h => nsw j (ret1 (.bool true) h)
  fun j => unc1 vs fun x4 =>
  ret1 x4 h
noncomputable def f119 (vs : List V) (h : HT) : Option J := unc2 vs fun x0 x1 =>
  bndV (rLenS x0) fun x7 =>
  bndV (rLenS x1) fun x9 =>
  bndV (rNeq x7 x9) fun x10 =>
  tstv x10 (ret1 (.bool false) h)
  (bndV (rLenS x0) fun x12 =>
  (f119_0 x0 x1 x12 h))

/- concord/state.same -/
noncomputable def l118 : List (Nat × (List V → HT → Option J)) := [(119, f119)]
noncomputable def t118 : Fns := tab l118
noncomputable def f118_0 (x2 : V) (x3 : V) (x16 : V) (x19 : V) (x21 : V) (h : HT) : Option J := bndC (gsel x16 true (retV (rEql x19 x21) h) h) fun x22 h =>
  bndV (rPick x16 x22 (.bool false)) fun x23 =>
  bndC (gsel x23 true (retV (rFa 3 x2) h) h) fun x25 h =>
  bndC (gsel x23 true (retV (rLd h x25) h) h) fun x26 h =>
  bndC (gsel x23 true (retV (rFa 3 x3) h) h) fun x27 h =>
  bndC (gsel x23 true (retV (rLd h x27) h) h) fun x28 h =>
  bndC (gsel x23 true (retV (rEql x26 x28) h) h) fun x29 h =>
  bndV (rPick x23 x29 (.bool false)) fun x30 =>
  bndC (gsel x30 true (retV (rFa 4 x2) h) h) fun x32 h =>
  bndC (gsel x30 true (retV (rLd h x32) h) h) fun x33 h =>
  bndC (gsel x30 true (retV (rFa 4 x3) h) h) fun x34 h =>
  bndC (gsel x30 true (retV (rLd h x34) h) h) fun x35 h =>
  bndC (gsel x30 true (f119 [x33, x35] h) h) fun x36 h =>
  bndV (rPick x30 x36 (.bool false)) fun x37 =>
  ret1 x37 h
noncomputable def f118_1 (x2 : V) (x3 : V) (x5 : V) (h : HT) : Option J := bndV (rLd h x5) fun x6 =>
  bndV (rFa 0 x3) fun x7 =>
  bndV (rLd h x7) fun x8 =>
  bndV (rEql x6 x8) fun x9 =>
  bndC (gsel x9 true (retV (rFa 1 x2) h) h) fun x11 h =>
  bndC (gsel x9 true (retV (rLd h x11) h) h) fun x12 h =>
  bndC (gsel x9 true (retV (rFa 1 x3) h) h) fun x13 h =>
  bndC (gsel x9 true (retV (rLd h x13) h) h) fun x14 h =>
  bndC (gsel x9 true (retV (kEqB false [x12, x14]) h) h) fun x15 h =>
  bndV (rPick x9 x15 (.bool false)) fun x16 =>
  bndC (gsel x16 true (retV (rFa 2 x2) h) h) fun x18 h =>
  bndC (gsel x16 true (retV (rLd h x18) h) h) fun x19 h =>
  bndC (gsel x16 true (retV (rFa 2 x3) h) h) fun x20 h =>
  bndC (gsel x16 true (retV (rLd h x20) h) h) fun x21 h =>
  (f118_0 x2 x3 x16 x19 x21 h)
noncomputable def f118 (vs : List V) (h : HT) : Option J := unc2 vs fun x0 x1 =>
  bndN (rBox x0) h fun x2 h =>
  bndN (rBox x1) h fun x3 h =>
  bndV (rFa 0 x2) fun x5 =>
  (f118_1 x2 x3 x5 h)

/- concord/state.Same -/
noncomputable def l46 : List (Nat × (List V → HT → Option J)) := [(118, f118), (119, f119)]
noncomputable def t46 : Fns := tab l46
noncomputable def f46_0 (rc : List V → HT → Option J) (x3 : V) (x6 : V) (x9 : V) (x14 : V) (x19 : V) (h : HT) : Option J := bndV (rNeq x14 x19) fun x20 =>
  bndC (gsel x20 false (retV (rFa 1 x6) h) h) fun x22 h =>
  bndC (gsel x20 false (retV (rLdN h 5 x22) h) h) fun x23 h =>
  bndC (gsel x20 false (retV (kMov [x9]) h) h) fun x24 h =>
  bndC (gsel x20 false (retV (rFa 1 x3) h) h) fun x25 h =>
  bndC (gsel x20 false (retV (rIaA 8 6 x25 x24) h) h) fun x26 h =>
  bndC (gsel x20 false (retV (rFa 1 x26) h) h) fun x27 h =>
  bndC (gsel x20 false (retV (rLdN h 5 x27) h) h) fun x28 h =>
  bndC (gsel x20 false (f118 [x23, x28] h) h) fun x29 h =>
  bndC (gsel x20 false (retV (rNot x29) h) h) fun x30 h =>
  bndV (rPick x20 (.bool true) x30) fun x31 =>
  tstv x31 (some ⟨1, [(.bool false)], h⟩)
  (bndV (rAdd x9 (.int .i64 (.ofNat (nat_lit 1)))) fun x32 =>
  rc [x32] h)
noncomputable def f46_1 (x3 : V) (x8 : V) (h : HT) : Option J := loopF (fun rc vs h => unc1 vs fun x9 =>
  bndV (rLss x9 (.int .i64 (.ofNat (nat_lit 8)))) fun x10 =>
  tstv x10 (bndV (qIxA 8 6 true [x8, x9]) fun x12 =>
  bndN (rAlloc [(.int .i64 (.ofNat (nat_lit 0))), (.int .i64 (.ofNat (nat_lit 0))), (.bool false), (.str (sb [])), (.int .i64 (.ofNat (nat_lit 0))), (.slice none 0 true 0)] []) h fun x6 h =>
  bndE (rSt h 6 x6 x12) h fun _ h =>
  bndV (rFa 0 x6) fun x13 =>
  bndV (rLd h x13) fun x14 =>
  bndV (rFa 1 x3) fun x16 =>
  bndV (rIaA 8 6 x16 x9) fun x17 =>
  bndV (rFa 0 x17) fun x18 =>
  bndV (rLd h x18) fun x19 =>
  (f46_0 rc x3 x6 x9 x14 x19 h))
  (some ⟨0, [], h⟩)) 1000000 [(.int .i64 (.ofNat (nat_lit 0)))] h
noncomputable def f46_2 (x0 : V) (x1 : V) (h : HT) : Option J := bndN (rBox x0) h fun x2 h =>
  bndN (rBox x1) h fun x3 h =>
  bndV (rFa 1 x2) fun x7 =>
  bndV (rLdN h 48 x7) fun x8 =>
  bndJ ((f46_1 x3 x8 h))
  fun j vs h => nsw j (bndV (rFa 0 x2) fun x33 =>
  bndV (rLd h x33) fun x34 =>
  bndV (rFa 0 x3) fun x35 =>
  bndV (rLd h x35) fun x36 =>
  bndC (f119 [x34, x36] h) fun x37 h =>
  ret1 x37 h)
  fun j => unc1 vs fun x4 =>
  ret1 x4 h
noncomputable def f46 (vs : List V) (h : HT) : Option J := unc2 vs fun x0 x1 =>
  (f46_2 x0 x1 h)

/- concord/state.Play -/
noncomputable def l120 : List (Nat × (List V → HT → Option J)) := [(203, f203)]
noncomputable def t120 : Fns := tab l120
noncomputable def f120_0 (rc : List V → HT → Option J) (x2 : V) (x6 : V) (x14 : V) (x17 : V) (h : HT) : Option J := bndN (rAlloc [(.int .i64 (.ofNat (nat_lit 0))), (.int .i64 (.ofNat (nat_lit 0))), (.int .i64 (.ofNat (nat_lit 0))), (.str (sb [])), (.str (sb [])), (.str (sb [])), (.str (sb []))] []) h fun x8 h =>
  bndE (rSt h 7 x8 x17) h fun _ h =>
  bndN (rAlloc [(.int .i64 (.ofNat (nat_lit 0))), (.bool false), (.str (sb [])), (.int .i64 (.ofNat (nat_lit 0))), (.slice none 0 true 0)] []) h fun x9 h =>
  bndV (rLdN h 49 x2) fun x19 =>
  bndV (rLdN h 7 x8) fun x20 =>
  bndC (noF [x19, x20] h) fun x21 h =>
  bndV (rExt 0 x21) fun x22 =>
  bndV (rExt 1 x21) fun x23 =>
  bndE (rSt h 49 x2 x22) h fun _ h =>
  bndE (rSt h 5 x9 x23) h fun _ h =>
  bndV (rLdN h 5 x9) fun x25 =>
  bndN (rBsl 5 1 [(.int .i64 (.ofNat (nat_lit 0))), (.bool false), (.str (sb [])), (.int .i64 (.ofNat (nat_lit 0))), (.slice none 0 true 0)] [(0, 5)] [x25]) h fun x26 h =>
  bndE (dApp h 5 64 [x6, x26]) h fun x27 h =>
  bndV (rAdd x14 (.int .i64 (.ofNat (nat_lit 1)))) fun x28 =>
  rc [x27, x28] h
noncomputable def f120_1 (x1 : V) (x2 : V) (x4 : V) (h : HT) : Option J := bndV (rLenS x1) fun x13 =>
  bndJ (loopF (fun rc vs h => unc2 vs fun x6 x14 =>
  bndV (rLss x14 x13) fun x15 =>
  tstv x15 (bndV (rIaS 7 x1 x14) fun x16 =>
  bndV (rLdN h 7 x16) fun x17 =>
  (f120_0 rc x2 x6 x14 x17 h))
  (some ⟨0, [x6], h⟩)) 1000000 [(.slice none 0 true 0), (.int .i64 (.ofNat (nat_lit 0)))] h)
  fun j vs h => unc1 vs fun x6 =>
  bndV (rLdN h 49 x2) fun x29 =>
  bndE (rSt h 49 x4 x29) h fun _ h =>
  bndV (qLd h (some 49) [x4]) fun x900000 =>
  ret1 (.tuple [x900000, x6]) h
noncomputable def f120 (vs : List V) (h : HT) : Option J := unc2 vs fun x0 x1 =>
  bndN (rBox x0) h fun x2 h =>
  bndN (rAlloc [(.slice none 0 true 0), (.int .i64 (.ofNat (nat_lit 0))), (.int .i64 (.ofNat (nat_lit 0))), (.bool false), (.str (sb [])), (.int .i64 (.ofNat (nat_lit 0))), (.slice none 0 true 0), (.int .i64 (.ofNat (nat_lit 0))), (.int .i64 (.ofNat (nat_lit 0))), (.bool false), (.str (sb [])), (.int .i64 (.ofNat (nat_lit 0))), (.slice none 0 true 0), (.int .i64 (.ofNat (nat_lit 0))), (.int .i64 (.ofNat (nat_lit 0))), (.bool false), (.str (sb [])), (.int .i64 (.ofNat (nat_lit 0))), (.slice none 0 true 0), (.int .i64 (.ofNat (nat_lit 0))), (.int .i64 (.ofNat (nat_lit 0))), (.bool false), (.str (sb [])), (.int .i64 (.ofNat (nat_lit 0))), (.slice none 0 true 0), (.int .i64 (.ofNat (nat_lit 0))), (.int .i64 (.ofNat (nat_lit 0))), (.bool false), (.str (sb [])), (.int .i64 (.ofNat (nat_lit 0))), (.slice none 0 true 0), (.int .i64 (.ofNat (nat_lit 0))), (.int .i64 (.ofNat (nat_lit 0))), (.bool false), (.str (sb [])), (.int .i64 (.ofNat (nat_lit 0))), (.slice none 0 true 0), (.int .i64 (.ofNat (nat_lit 0))), (.int .i64 (.ofNat (nat_lit 0))), (.bool false), (.str (sb [])), (.int .i64 (.ofNat (nat_lit 0))), (.slice none 0 true 0), (.int .i64 (.ofNat (nat_lit 0))), (.int .i64 (.ofNat (nat_lit 0))), (.bool false), (.str (sb [])), (.int .i64 (.ofNat (nat_lit 0))), (.slice none 0 true 0)] []) h fun x4 h =>
  bndV (rLdN h 49 x2) fun x10 =>
  bndC (f203 [x10] h) fun x11 h =>
  bndE (rSt h 49 x2 x11) h fun _ h =>
  (f120_1 x1 x2 x4 h)

/- (*concord/node.Node).State -/
noncomputable def l47 : List (Nat × (List V → HT → Option J)) := [(120, f120)]
noncomputable def t47 : Fns := tab l47

noncomputable def f47 (vs : List V) (h : HT) : Option J := unc1 vs fun x0 =>
  bndN (rAlloc [(.slice none 0 true 0), (.int .i64 (.ofNat (nat_lit 0))), (.int .i64 (.ofNat (nat_lit 0))), (.bool false), (.str (sb [])), (.int .i64 (.ofNat (nat_lit 0))), (.slice none 0 true 0), (.int .i64 (.ofNat (nat_lit 0))), (.int .i64 (.ofNat (nat_lit 0))), (.bool false), (.str (sb [])), (.int .i64 (.ofNat (nat_lit 0))), (.slice none 0 true 0), (.int .i64 (.ofNat (nat_lit 0))), (.int .i64 (.ofNat (nat_lit 0))), (.bool false), (.str (sb [])), (.int .i64 (.ofNat (nat_lit 0))), (.slice none 0 true 0), (.int .i64 (.ofNat (nat_lit 0))), (.int .i64 (.ofNat (nat_lit 0))), (.bool false), (.str (sb [])), (.int .i64 (.ofNat (nat_lit 0))), (.slice none 0 true 0), (.int .i64 (.ofNat (nat_lit 0))), (.int .i64 (.ofNat (nat_lit 0))), (.bool false), (.str (sb [])), (.int .i64 (.ofNat (nat_lit 0))), (.slice none 0 true 0), (.int .i64 (.ofNat (nat_lit 0))), (.int .i64 (.ofNat (nat_lit 0))), (.bool false), (.str (sb [])), (.int .i64 (.ofNat (nat_lit 0))), (.slice none 0 true 0), (.int .i64 (.ofNat (nat_lit 0))), (.int .i64 (.ofNat (nat_lit 0))), (.bool false), (.str (sb [])), (.int .i64 (.ofNat (nat_lit 0))), (.slice none 0 true 0), (.int .i64 (.ofNat (nat_lit 0))), (.int .i64 (.ofNat (nat_lit 0))), (.bool false), (.str (sb [])), (.int .i64 (.ofNat (nat_lit 0))), (.slice none 0 true 0)] []) h fun x2 h =>
  bndV (rNilc x0) fun x7 =>
  bndV (rFa 6 x7) fun x8 =>
  bndV (rLdN h 49 x8) fun x9 =>
  bndC (f120 [x9, (.slice none 0 true 0)] h) fun x10 h =>
  bndV (rExt 0 x10) fun x11 =>
  bndV (rExt 1 x10) fun x12 =>
  bndN (rAlloc [(.slice none 0 true 0), (.int .i64 (.ofNat (nat_lit 0))), (.int .i64 (.ofNat (nat_lit 0))), (.bool false), (.str (sb [])), (.int .i64 (.ofNat (nat_lit 0))), (.slice none 0 true 0), (.int .i64 (.ofNat (nat_lit 0))), (.int .i64 (.ofNat (nat_lit 0))), (.bool false), (.str (sb [])), (.int .i64 (.ofNat (nat_lit 0))), (.slice none 0 true 0), (.int .i64 (.ofNat (nat_lit 0))), (.int .i64 (.ofNat (nat_lit 0))), (.bool false), (.str (sb [])), (.int .i64 (.ofNat (nat_lit 0))), (.slice none 0 true 0), (.int .i64 (.ofNat (nat_lit 0))), (.int .i64 (.ofNat (nat_lit 0))), (.bool false), (.str (sb [])), (.int .i64 (.ofNat (nat_lit 0))), (.slice none 0 true 0), (.int .i64 (.ofNat (nat_lit 0))), (.int .i64 (.ofNat (nat_lit 0))), (.bool false), (.str (sb [])), (.int .i64 (.ofNat (nat_lit 0))), (.slice none 0 true 0), (.int .i64 (.ofNat (nat_lit 0))), (.int .i64 (.ofNat (nat_lit 0))), (.bool false), (.str (sb [])), (.int .i64 (.ofNat (nat_lit 0))), (.slice none 0 true 0), (.int .i64 (.ofNat (nat_lit 0))), (.int .i64 (.ofNat (nat_lit 0))), (.bool false), (.str (sb [])), (.int .i64 (.ofNat (nat_lit 0))), (.slice none 0 true 0), (.int .i64 (.ofNat (nat_lit 0))), (.int .i64 (.ofNat (nat_lit 0))), (.bool false), (.str (sb [])), (.int .i64 (.ofNat (nat_lit 0))), (.slice none 0 true 0)] []) h fun x3 h =>
  bndE (rSt h 49 x3 x11) h fun _ h =>
  bndV (rLdN h 49 x3) fun x13 =>
  bndE (rSt h 49 x2 x13) h fun _ h =>
  bndV (qLd h (some 49) [x2]) fun x900000 =>
  ret1 x900000 h

/- concord/concordlaw23.NodeRuns -/
noncomputable def l10 : List (Nat × (List V → HT → Option J)) := [(8, f8), (9, f9), (12, f12), (13, f13), (16, f16), (17, f17), (23, f23), (46, f46), (47, f47)]
noncomputable def t10 : Fns := tab l10
noncomputable def f10_0 (rc : List V → HT → Option J) (x1 : V) (x2 : V) (x3 : V) (x23 : V) (h : HT) : Option J := bndC (f9 [(.int .i64 (.ofNat (nat_lit 3))), x3, x23] h) fun x28 h =>
  bndV (rExt 0 x28) fun x29 =>
  bndV (rExt 1 x28) fun x30 =>
  bndV (kEqN false [x29, (.ptr none)]) fun x32 =>
  bndC (gsel x32 false (retV (kMov [x30]) h) h) fun x34 h =>
  bndC (gsel x32 false (retV (rNeq x34 (.int .i64 (.ofNat (nat_lit 0)))) h) h) fun x35 h =>
  bndV (rPick x32 (.bool true) x35) fun x36 =>
  tstv x36 (some ⟨1, [(.bool false)], h⟩)
  (bndN (rBsl 1 1 [(.ptr none)] [(0, 1)] [x29]) h fun x39 h =>
  bndE (dApp h 1 8 [x1, x39]) h fun x40 h =>
  bndN (rBsl 1 1 [(.ptr none)] [(0, 1)] [x23]) h fun x43 h =>
  bndE (dApp h 1 8 [x2, x43]) h fun x44 h =>
  bndV (rAdd x3 (.int .i64 (.ofNat (nat_lit 1)))) fun x20 =>
  rc [x40, x44, x20] h)
noncomputable def f10_1 (rc : List V → HT → Option J) (x1 : V) (x65 : V) (vs : List V) (h : HT) : Option J := unc1 vs fun x13 =>
  bndV (rLenS x65) fun x73 =>
  bndV (rLss x13 x73) fun x74 =>
  tstv x74 (bndV (rIaS 51 x65 x13) fun x80 =>
  bndV (rFa 2 x80) fun x81 =>
  bndV (rLd h x81) fun x82 =>
  bndV (rIaS 1 x1 x82) fun x83 =>
  bndV (rLd h x83) fun x84 =>
  bndV (rIaS 51 x65 x13) fun x87 =>
  bndV (rLdN h 51 x87) fun x88 =>
  bndC (f16 [x84, x88] h) fun x89 h =>
  bndV (rAdd x13 (.int .i64 (.ofNat (nat_lit 1)))) fun x76 =>
  rc [x76] h)
  (some ⟨0, [], h⟩)
noncomputable def f10_2 (rc : List V → HT → Option J) (x1 : V) (x8 : V) (x10 : V) (h : HT) : Option J := bndV (rLss x10 (.int .i64 (.ofNat (nat_lit 3)))) fun x56 =>
  tstv x56 (bndV (rIaS 1 x1 x10) fun x62 =>
  bndV (rLd h x62) fun x63 =>
  bndC (f17 [x63] h) fun x64 h =>
  bndV (rExt 0 x64) fun x65 =>
  bndV (rExt 1 x64) fun x66 =>
  bndV (rLenS x66) fun x69 =>
  bndV (rAdd x8 x69) fun x70 =>
  bndJ (loopF (fun rc vs h => (f10_1 rc x1 x65 vs h)) 1000000 [(.int .i64 (.ofNat (nat_lit 0)))] h)
  fun j vs h => bndV (rAdd x10 (.int .i64 (.ofNat (nat_lit 1)))) fun x58 =>
  rc [x70, x58] h)
  (some ⟨0, [x8], h⟩)
noncomputable def f10_3 (x1 : V) (x96 : V) (x137 : V) (x139 : V) (h : HT) : Option J := bndC (gsel x137 true (retV (kMov [x1]) h) h) fun x141 h =>
  bndC (gsel x137 true (retV (rIaS 1 x141 (.int .i64 (.ofNat (nat_lit 0)))) h) h) fun x142 h =>
  bndC (gsel x137 true (retV (rLd h x142) h) h) fun x143 h =>
  bndC (gsel x137 true (f47 [x139] h) h) fun x140 h =>
  chk1 (gchk x137 true (sameE (rLd h x142) x143)) (bndC (gsel x137 true (f47 [x143] h) h) fun x144 h =>
  bndC (gsel x137 true (f46 [x140, x144] h) h) fun x145 h =>
  bndV (rPick x137 x145 (.bool false)) fun x146 =>
  bndC (gsel x146 true (retV (kMov [x96]) h) h) fun x148 h =>
  bndC (gsel x146 true (f47 [x148] h) h) fun x149 h =>
  bndC (gsel x146 true (retV (kFld 0 1 false [x149]) h) h) fun x150 h =>
  bndC (gsel x146 true (retV (rLenS x150) h) h) fun x151 h =>
  bndC (gsel x146 true (retV (rEql x151 (.int .i64 (.ofNat (nat_lit 1)))) h) h) fun x152 h =>
  bndV (rPick x146 x152 (.bool false)) fun x153 =>
  ret1 x153 h)
noncomputable def f10_4 (x1 : V) (x14 : V) (x96 : V) (x97 : V) (x115 : V) (x122 : V) (h : HT) : Option J := bndV (rPick x115 x122 (.bool false)) fun x123 =>
  bndC (gsel x123 true (retV (kMov [x96]) h) h) fun x125 h =>
  bndC (gsel x123 true (retV (kEqN true [x125, (.ptr none)]) h) h) fun x126 h =>
  bndV (rPick x123 x126 (.bool false)) fun x127 =>
  bndC (gsel x127 true (retV (kMov [x97]) h) h) fun x129 h =>
  bndC (gsel x127 true (retV (rEql x129 (.int .i64 (.ofNat (nat_lit 0)))) h) h) fun x130 h =>
  bndV (rPick x127 x130 (.bool false)) fun x131 =>
  bndC (gsel x131 true (retV (kMov [x96]) h) h) fun x133 h =>
  bndC (gsel x131 true (retV (rLdN h 7 x14) h) h) fun x135 h =>
  bndC (gsel x131 true (f23 [x133] h) h) fun x134 h =>
  chk1 (gchk x131 true (sameE (rLdN h 7 x14) x135)) (bndC (gsel x131 true (retV (kEqF false [.i, .i, .i, .i, .i, .i, .i] [x134, x135]) h) h) fun x136 h =>
  bndV (rPick x131 x136 (.bool false)) fun x137 =>
  bndC (gsel x137 true (retV (kMov [x96]) h) h) fun x139 h =>
  (f10_3 x1 x96 x137 x139 h))
noncomputable def f10_5 (x1 : V) (x14 : V) (x96 : V) (x97 : V) (x107 : V) (x109 : V) (h : HT) : Option J := bndC (gsel x107 true (retV (rIaS 1 x109 (.int .i64 (.ofNat (nat_lit 1)))) h) h) fun x110 h =>
  bndC (gsel x107 true (retV (rLd h x110) h) h) fun x111 h =>
  bndC (gsel x107 true (retV (rLdN h 7 x14) h) h) fun x113 h =>
  bndC (gsel x107 true (f23 [x111] h) h) fun x112 h =>
  chk1 (gchk x107 true (sameE (rLdN h 7 x14) x113)) (bndC (gsel x107 true (retV (kEqF false [.i, .i, .i, .i, .i, .i, .i] [x112, x113]) h) h) fun x114 h =>
  bndV (rPick x107 x114 (.bool false)) fun x115 =>
  bndC (gsel x115 true (retV (kMov [x1]) h) h) fun x117 h =>
  bndC (gsel x115 true (retV (rIaS 1 x117 (.int .i64 (.ofNat (nat_lit 2)))) h) h) fun x118 h =>
  bndC (gsel x115 true (retV (rLd h x118) h) h) fun x119 h =>
  bndC (gsel x115 true (retV (rLdN h 7 x14) h) h) fun x121 h =>
  bndC (gsel x115 true (f23 [x119] h) h) fun x120 h =>
  chk1 (gchk x115 true (sameE (rLdN h 7 x14) x121)) (bndC (gsel x115 true (retV (kEqF false [.i, .i, .i, .i, .i, .i, .i] [x120, x121]) h) h) fun x122 h =>
  (f10_4 x1 x14 x96 x97 x115 x122 h)))
noncomputable def f10_6 (x1 : V) (x8 : V) (x14 : V) (x93 : V) (h : HT) : Option J := bndV (rLd h x93) fun x94 =>
  bndC (f9 [(.int .i64 (.ofNat (nat_lit 3))), (.int .i64 (.ofNat (nat_lit 0))), x94] h) fun x95 h =>
  bndV (rExt 0 x95) fun x96 =>
  bndV (rExt 1 x95) fun x97 =>
  bndV (rEql x8 (.int .i64 (.ofNat (nat_lit 1)))) fun x99 =>
  bndC (gsel x99 true (retV (kMov [x1]) h) h) fun x101 h =>
  bndC (gsel x99 true (retV (rIaS 1 x101 (.int .i64 (.ofNat (nat_lit 0)))) h) h) fun x102 h =>
  bndC (gsel x99 true (retV (rLd h x102) h) h) fun x103 h =>
  bndC (gsel x99 true (retV (rLdN h 7 x14) h) h) fun x105 h =>
  bndC (gsel x99 true (f23 [x103] h) h) fun x104 h =>
  chk1 (gchk x99 true (sameE (rLdN h 7 x14) x105)) (bndC (gsel x99 true (retV (kEqF false [.i, .i, .i, .i, .i, .i, .i] [x104, x105]) h) h) fun x106 h =>
  bndV (rPick x99 x106 (.bool false)) fun x107 =>
  bndC (gsel x107 true (retV (kMov [x1]) h) h) fun x109 h =>
  (f10_5 x1 x14 x96 x97 x107 x109 h))
noncomputable def f10_7 (x1 : V) (x2 : V) (h : HT) : Option J := bndJ (loopF (fun rc vs h => unc2 vs fun x8 x9 =>
  bndV (rLss x9 (.int .i64 (.ofNat (nat_lit 10)))) fun x52 =>
  tstv x52 (bndJ (loopF (fun rc vs h => unc2 vs fun x8 x10 =>
  (f10_2 rc x1 x8 x10 h)) 1000000 [x8, (.int .i64 (.ofNat (nat_lit 0)))] h)
  fun j vs h => unc1 vs fun x8 =>
  bndV (rAdd x9 (.int .i64 (.ofNat (nat_lit 1)))) fun x54 =>
  rc [x8, x54] h)
  (some ⟨0, [x8], h⟩)) 1000000 [(.int .i64 (.ofNat (nat_lit 0))), (.int .i64 (.ofNat (nat_lit 0)))] h)
  fun j vs h => unc1 vs fun x8 =>
  bndV (rBld [(.int .i64 (.ofNat (nat_lit 0))), (.int .i64 (.ofNat (nat_lit 0))), (.int .i64 (.ofNat (nat_lit 0))), (.int .i64 (.ofNat (nat_lit 0))), (.int .i64 (.ofNat (nat_lit 0))), (.int .i64 (.ofNat (nat_lit 0))), (.int .i64 (.ofNat (nat_lit 0)))] [(0, 1)] [(.int .i64 (.ofNat (nat_lit 1)))]) fun x90 =>
  bndN (rAlloc [(.int .i64 (.ofNat (nat_lit 0))), (.int .i64 (.ofNat (nat_lit 0))), (.int .i64 (.ofNat (nat_lit 0))), (.int .i64 (.ofNat (nat_lit 0))), (.int .i64 (.ofNat (nat_lit 0))), (.int .i64 (.ofNat (nat_lit 0))), (.int .i64 (.ofNat (nat_lit 0)))] []) h fun x14 h =>
  bndE (rSt h 7 x14 x90) h fun _ h =>
  bndV (rIaS 1 x2 (.int .i64 (.ofNat (nat_lit 0)))) fun x93 =>
  (f10_6 x1 x8 x14 x93 h)
noncomputable def f10 (vs : List V) (h : HT) : Option J := bndJ (loopF (fun rc vs h => unc3 vs fun x1 x2 x3 =>
  bndV (rLss x3 (.int .i64 (.ofNat (nat_lit 3)))) fun x18 =>
  tstv x18 (bndC (f8 [(.int .i64 (.ofNat (nat_lit 65536)))] h) fun x22 h =>
  bndV (rExt 0 x22) fun x23 =>
  bndV (rExt 1 x22) fun x24 =>
  (f10_0 rc x1 x2 x3 x23 h))
  (some ⟨0, [x1, x2], h⟩)) 1000000 [(.slice none 0 true 0), (.slice none 0 true 0), (.int .i64 (.ofNat (nat_lit 0)))] h)
  fun j vs h => nsw j (unc2 vs fun x1 x2 =>
  bndV (rIaS 1 x1 (.int .i64 (.ofNat (nat_lit 0)))) fun x46 =>
  bndV (rLd h x46) fun x47 =>
  bndC (f13 [(.int .i64 (.ofNat (nat_lit 1))), (.int .i64 (.ofNat (nat_lit 1))), (.str (sb [97]))] h) fun x48 h =>
  chk1 (sameE (rLd h x46) x47) (bndC (f12 [x47, x48] h) fun x49 h =>
  bndV (rNeq x49 (.int .i64 (.ofNat (nat_lit 0)))) fun x50 =>
  tstv x50 (ret1 (.bool false) h)
  ((f10_7 x1 x2 h))))
  fun j => unc1 vs fun x0 =>
  ret1 x0 h

/- concord/client.New -/
noncomputable def l59 : List (Nat × (List V → HT → Option J)) := []
noncomputable def t59 : Fns := tab l59

noncomputable def f59 (vs : List V) (h : HT) : Option J := unc1 vs fun x0 =>
  bndV (rLss x0 (.int .i64 (.ofNat (nat_lit 1)))) fun x5 =>
  bndC (gsel x5 false (retV (kMov [x0]) h) h) fun x7 h =>
  bndC (gsel x5 false (retV (rGtr x7 (.int .i64 (.ofNat (nat_lit 8)))) h) h) fun x8 h =>
  bndV (rPick x5 (.bool true) x8) fun x9 =>
  tstv x9 (ret1 (.tuple [(.ptr none), (.int .i64 (.ofNat (nat_lit 1)))]) h)
  (bndV (rBld [(.int .i64 (.ofNat (nat_lit 0))), (.int .i64 (.ofNat (nat_lit 0))), (.int .i64 (.ofNat (nat_lit 0))), (.int .i64 (.ofNat (nat_lit 0))), (.int .i64 (.ofNat (nat_lit 0))), (.str (sb [])), (.str (sb [])), (.str (sb [])), (.str (sb [])), (.bool false), (.int .i64 (.ofNat (nat_lit 0))), (.int .i64 (.ofNat (nat_lit 0)))] [(0, 1)] [x0]) fun x11 =>
  bndN (rBox x11) h fun x12 h =>
  ret1 (.tuple [x12, (.int .i64 (.ofNat (nat_lit 0)))]) h)

/- concord/cluster.known -/
noncomputable def l144 : List (Nat × (List V → HT → Option J)) := []
noncomputable def t144 : Fns := tab l144

noncomputable def f144 (vs : List V) (h : HT) : Option J := unc1 vs fun x0 =>
  bndV (rGeq x0 (.int .i64 (.ofNat (nat_lit 1)))) fun x4 =>
  bndC (gsel x4 true (retV (kMov [x0]) h) h) fun x6 h =>
  bndC (gsel x4 true (retV (rLeq x6 (.int .i64 (.ofNat (nat_lit 8)))) h) h) fun x7 h =>
  bndV (rPick x4 x7 (.bool false)) fun x8 =>
  ret1 x8 h

/- (*concord/client.Client).Tell -/
noncomputable def l145 : List (Nat × (List V → HT → Option J)) := []
noncomputable def t145 : Fns := tab l145
noncomputable def f145_0 (x0 : V) (x3 : V) (x9 : V) (x17 : V) (h : HT) : Option J := bndV (rPick x9 (.bool true) x17) fun x18 =>
  bndC (gsel x18 false (retV (rFa 1 x3) h) h) fun x20 h =>
  bndC (gsel x18 false (retV (rLd h x20) h) h) fun x21 h =>
  bndC (gsel x18 false (retV (kMov [x0]) h) h) fun x22 h =>
  bndC (gsel x18 false (retV (rNilc x22) h) h) fun x23 h =>
  bndC (gsel x18 false (retV (rFa 1 x23) h) h) fun x24 h =>
  bndC (gsel x18 false (retV (rLd h x24) h) h) fun x25 h =>
  bndC (gsel x18 false (retV (rNeq x21 x25) h) h) fun x26 h =>
  bndV (rPick x18 (.bool true) x26) fun x27 =>
  tstv x27 (ret1 (.bool false) h)
  (bndV (rNilc x0) fun x29 =>
  bndV (rFa 9 x29) fun x30 =>
  bndE (rSt h 1 x30 (.bool false)) h fun _ h =>
  ret1 (.bool true) h)
noncomputable def f145 (vs : List V) (h : HT) : Option J := unc2 vs fun x0 x1 =>
  bndN (rBox x1) h fun x3 h =>
  bndV (rNilc x0) fun x6 =>
  bndV (rFa 9 x6) fun x7 =>
  bndV (rLd h x7) fun x8 =>
  bndV (rNot x8) fun x9 =>
  bndC (gsel x9 false (retV (rFa 0 x3) h) h) fun x11 h =>
  bndC (gsel x9 false (retV (rLd h x11) h) h) fun x12 h =>
  bndC (gsel x9 false (retV (kMov [x0]) h) h) fun x13 h =>
  bndC (gsel x9 false (retV (rNilc x13) h) h) fun x14 h =>
  bndC (gsel x9 false (retV (rFa 0 x14) h) h) fun x15 h =>
  bndC (gsel x9 false (retV (rLd h x15) h) h) fun x16 h =>
  bndC (gsel x9 false (retV (rNeq x12 x16) h) h) fun x17 h =>
  (f145_0 x0 x3 x9 x17 h)

/- (*concord/cluster.Cluster).out -/
noncomputable def l60 : List (Nat × (List V → HT → Option J)) := [(17, f17), (70, f70), (144, f144), (145, f145)]
noncomputable def t60 : Fns := tab l60
noncomputable def f60_0 (rc : List V → HT → Option J) (x0 : V) (x7 : V) (x23 : V) (x41 : V) (h : HT) : Option J := bndJ (tstv x41 (bndV (rNilc x0) fun x44 =>
  bndV (rFa 5 x44) fun x45 =>
  bndV (rLd h x45) fun x46 =>
  bndV (rLdN h 51 x7) fun x47 =>
  bndN (rBsl 51 1 [(.int .i64 (.ofNat (nat_lit 0))), (.int .i64 (.ofNat (nat_lit 0))), (.int .i64 (.ofNat (nat_lit 0))), (.int .i64 (.ofNat (nat_lit 0))), (.int .i64 (.ofNat (nat_lit 0))), (.int .i64 (.ofNat (nat_lit 0))), (.int .i64 (.ofNat (nat_lit 0))), (.int .i64 (.ofNat (nat_lit 0))), (.int .i64 (.ofNat (nat_lit 0))), (.int .i64 (.ofNat (nat_lit 0))), (.str (sb [])), (.str (sb [])), (.str (sb [])), (.str (sb [])), (.int .i64 (.ofNat (nat_lit 0))), (.int .i64 (.ofNat (nat_lit 0))), (.int .i64 (.ofNat (nat_lit 0))), (.int .i64 (.ofNat (nat_lit 0))), (.int .i64 (.ofNat (nat_lit 0))), (.int .i64 (.ofNat (nat_lit 0))), (.int .i64 (.ofNat (nat_lit 0))), (.int .i64 (.ofNat (nat_lit 0))), (.int .i64 (.ofNat (nat_lit 0))), (.int .i64 (.ofNat (nat_lit 0))), (.int .i64 (.ofNat (nat_lit 0))), (.int .i64 (.ofNat (nat_lit 0))), (.int .i64 (.ofNat (nat_lit 0))), (.int .i64 (.ofNat (nat_lit 0))), (.int .i64 (.ofNat (nat_lit 0))), (.int .i64 (.ofNat (nat_lit 0))), (.str (sb [])), (.str (sb [])), (.str (sb [])), (.str (sb [])), (.int .i64 (.ofNat (nat_lit 0))), (.int .i64 (.ofNat (nat_lit 0))), (.int .i64 (.ofNat (nat_lit 0))), (.int .i64 (.ofNat (nat_lit 0))), (.int .i64 (.ofNat (nat_lit 0))), (.int .i64 (.ofNat (nat_lit 0))), (.int .i64 (.ofNat (nat_lit 0))), (.int .i64 (.ofNat (nat_lit 0))), (.bool false), (.int .i64 (.ofNat (nat_lit 0))), (.int .i64 (.ofNat (nat_lit 0))), (.int .i64 (.ofNat (nat_lit 0))), (.int .i64 (.ofNat (nat_lit 0))), (.int .i64 (.ofNat (nat_lit 0))), (.int .i64 (.ofNat (nat_lit 0))), (.int .i64 (.ofNat (nat_lit 0))), (.str (sb []))] [(0, 51)] [x47]) h fun x48 h =>
  bndE (dApp h 51 480 [x46, x48]) h fun x49 h =>
  bndV (rNilc x0) fun x50 =>
  bndV (rFa 5 x50) fun x51 =>
  bndE (rSt h 1 x51 x49) h fun _ h =>
  some ⟨0, [], h⟩)
  (some ⟨0, [], h⟩))
  fun j vs h => bndV (rAdd x23 (.int .i64 (.ofNat (nat_lit 1)))) fun x52 =>
  rc [x52] h
noncomputable def f60_1 (rc : List V → HT → Option J) (x0 : V) (x7 : V) (x23 : V) (x26 : V) (h : HT) : Option J := bndE (rSt h 51 x7 x26) h fun _ h =>
  bndV (rFa 2 x7) fun x27 =>
  bndV (rLd h x27) fun x28 =>
  bndV (rNilc x0) fun x30 =>
  bndV (rFa 0 x30) fun x31 =>
  bndV (rLd h x31) fun x32 =>
  bndV (rLss x28 x32) fun x33 =>
  bndC (gsel x33 true (retV (kMov [x0]) h) h) fun x35 h =>
  bndC (gsel x33 true (retV (rNilc x35) h) h) fun x36 h =>
  bndC (gsel x33 true (retV (rFa 5 x36) h) h) fun x37 h =>
  bndC (gsel x33 true (retV (rLd h x37) h) h) fun x38 h =>
  bndC (gsel x33 true (retV (rLenS x38) h) h) fun x39 h =>
  bndC (gsel x33 true (retV (rLss x39 (.int .i64 (.ofNat (nat_lit 4000)))) h) h) fun x40 h =>
  bndV (rPick x33 x40 (.bool false)) fun x41 =>
  (f60_0 rc x0 x7 x23 x41 h)
noncomputable def f60_2 (x0 : V) (x9 : V) (x85 : V) (x87 : V) (x90 : V) (h : HT) : Option J := bndV (rLd h x90) fun x91 =>
  bndV (rFa 0 x9) fun x92 =>
  bndV (rLd h x92) fun x93 =>
  bndV (rSub x93 (.int .i64 (.ofNat (nat_lit 1)))) fun x94 =>
  bndV (rIaS 7 x91 x94) fun x95 =>
  bndV (rLdN h 7 x95) fun x96 =>
  bndV (rFa 2 x9) fun x97 =>
  bndV (rLdN h 5 x97) fun x98 =>
  bndV (rBld [(.int .i64 (.ofNat (nat_lit 0))), (.int .i64 (.ofNat (nat_lit 0))), (.int .i64 (.ofNat (nat_lit 0))), (.int .i64 (.ofNat (nat_lit 0))), (.int .i64 (.ofNat (nat_lit 0))), (.str (sb [])), (.str (sb [])), (.str (sb [])), (.str (sb [])), (.int .i64 (.ofNat (nat_lit 0))), (.bool false), (.str (sb [])), (.int .i64 (.ofNat (nat_lit 0))), (.slice none 0 true 0)] [(0, 1), (1, 1), (2, 7), (9, 5)] [(.int .i64 (.ofNat (nat_lit 2))), x87, x96, x98]) fun x99 =>
  bndN (rBsl 14 1 [(.int .i64 (.ofNat (nat_lit 0))), (.int .i64 (.ofNat (nat_lit 0))), (.int .i64 (.ofNat (nat_lit 0))), (.int .i64 (.ofNat (nat_lit 0))), (.int .i64 (.ofNat (nat_lit 0))), (.str (sb [])), (.str (sb [])), (.str (sb [])), (.str (sb [])), (.int .i64 (.ofNat (nat_lit 0))), (.bool false), (.str (sb [])), (.int .i64 (.ofNat (nat_lit 0))), (.slice none 0 true 0)] [(0, 14)] [x99]) h fun x100 h =>
  bndE (dApp h 14 168 [x85, x100]) h fun x101 h =>
  bndV (rNilc x0) fun x102 =>
  bndV (rFa 6 x102) fun x103 =>
  bndE (rSt h 1 x103 x101) h fun _ h =>
  some ⟨0, [], h⟩
noncomputable def f60_3 (x0 : V) (x9 : V) (h : HT) : Option J := bndV (rFa 2 x9) fun x75 =>
  bndV (rFa 4 x75) fun x76 =>
  bndV (rLd h x76) fun x77 =>
  bndC (f70 [x77] h) fun x78 h =>
  bndV (rFa 2 x9) fun x79 =>
  bndV (rFa 4 x79) fun x80 =>
  bndE (rSt h 1 x80 x78) h fun _ h =>
  bndV (rNilc x0) fun x83 =>
  bndV (rFa 6 x83) fun x84 =>
  bndV (rLd h x84) fun x85 =>
  bndV (rFa 0 x9) fun x86 =>
  bndV (rLd h x86) fun x87 =>
  bndV (rNilc x0) fun x89 =>
  bndV (rFa 4 x89) fun x90 =>
  (f60_2 x0 x9 x85 x87 x90 h)
noncomputable def f60_4 (rc : List V → HT → Option J) (x0 : V) (x9 : V) (x55 : V) (x61 : V) (x65 : V) (h : HT) : Option J := bndC (gsel x61 true (retV (rLd h x65) h) h) fun x66 h =>
  bndC (gsel x61 true (retV (rFa 0 x9) h) h) fun x67 h =>
  bndC (gsel x61 true (retV (rLd h x67) h) h) fun x68 h =>
  bndC (gsel x61 true (retV (rSub x68 (.int .i64 (.ofNat (nat_lit 1)))) h) h) fun x69 h =>
  bndC (gsel x61 true (retV (rIaS 1 x66 x69) h) h) fun x70 h =>
  bndC (gsel x61 true (retV (rLd h x70) h) h) fun x71 h =>
  bndC (gsel x61 true (retV (rLdN h 7 x9) h) h) fun x72 h =>
  bndC (gsel x61 true (f145 [x71, x72] h) h) fun x73 h =>
  bndV (rPick x61 x73 (.bool false)) fun x74 =>
  bndJ (tstv x74 ((f60_3 x0 x9 h))
  (some ⟨0, [], h⟩))
  fun j vs h => bndV (rAdd x55 (.int .i64 (.ofNat (nat_lit 1)))) fun x104 =>
  rc [x104] h
noncomputable def f60_5 (rc : List V → HT → Option J) (x0 : V) (x20 : V) (x54 : V) (vs : List V) (h : HT) : Option J := unc1 vs fun x55 =>
  bndV (rLss x55 x54) fun x56 =>
  tstv x56 (bndV (rIaS 7 x20 x55) fun x57 =>
  bndV (rLdN h 7 x57) fun x58 =>
  bndN (rAlloc [(.int .i64 (.ofNat (nat_lit 0))), (.int .i64 (.ofNat (nat_lit 0))), (.int .i64 (.ofNat (nat_lit 0))), (.bool false), (.str (sb [])), (.int .i64 (.ofNat (nat_lit 0))), (.slice none 0 true 0)] []) h fun x9 h =>
  bndE (rSt h 7 x9 x58) h fun _ h =>
  bndV (rFa 0 x9) fun x59 =>
  bndV (rLd h x59) fun x60 =>
  bndC (f144 [x60] h) fun x61 h =>
  bndC (gsel x61 true (retV (kMov [x0]) h) h) fun x63 h =>
  bndC (gsel x61 true (retV (rNilc x63) h) h) fun x64 h =>
  bndC (gsel x61 true (retV (rFa 3 x64) h) h) fun x65 h =>
  (f60_4 rc x0 x9 x55 x61 x65 h))
  (some ⟨0, [], h⟩)
noncomputable def f60_6 (x0 : V) (x19 : V) (x20 : V) (x22 : V) (h : HT) : Option J := bndJ (loopF (fun rc vs h => unc1 vs fun x23 =>
  bndV (rLss x23 x22) fun x24 =>
  tstv x24 (bndV (rIaS 51 x19 x23) fun x25 =>
  bndV (rLdN h 51 x25) fun x26 =>
  bndN (rAlloc [(.int .i64 (.ofNat (nat_lit 0))), (.int .i64 (.ofNat (nat_lit 0))), (.int .i64 (.ofNat (nat_lit 0))), (.int .i64 (.ofNat (nat_lit 0))), (.int .i64 (.ofNat (nat_lit 0))), (.int .i64 (.ofNat (nat_lit 0))), (.int .i64 (.ofNat (nat_lit 0))), (.int .i64 (.ofNat (nat_lit 0))), (.int .i64 (.ofNat (nat_lit 0))), (.int .i64 (.ofNat (nat_lit 0))), (.str (sb [])), (.str (sb [])), (.str (sb [])), (.str (sb [])), (.int .i64 (.ofNat (nat_lit 0))), (.int .i64 (.ofNat (nat_lit 0))), (.int .i64 (.ofNat (nat_lit 0))), (.int .i64 (.ofNat (nat_lit 0))), (.int .i64 (.ofNat (nat_lit 0))), (.int .i64 (.ofNat (nat_lit 0))), (.int .i64 (.ofNat (nat_lit 0))), (.int .i64 (.ofNat (nat_lit 0))), (.int .i64 (.ofNat (nat_lit 0))), (.int .i64 (.ofNat (nat_lit 0))), (.int .i64 (.ofNat (nat_lit 0))), (.int .i64 (.ofNat (nat_lit 0))), (.int .i64 (.ofNat (nat_lit 0))), (.int .i64 (.ofNat (nat_lit 0))), (.int .i64 (.ofNat (nat_lit 0))), (.int .i64 (.ofNat (nat_lit 0))), (.str (sb [])), (.str (sb [])), (.str (sb [])), (.str (sb [])), (.int .i64 (.ofNat (nat_lit 0))), (.int .i64 (.ofNat (nat_lit 0))), (.int .i64 (.ofNat (nat_lit 0))), (.int .i64 (.ofNat (nat_lit 0))), (.int .i64 (.ofNat (nat_lit 0))), (.int .i64 (.ofNat (nat_lit 0))), (.int .i64 (.ofNat (nat_lit 0))), (.int .i64 (.ofNat (nat_lit 0))), (.bool false), (.int .i64 (.ofNat (nat_lit 0))), (.int .i64 (.ofNat (nat_lit 0))), (.int .i64 (.ofNat (nat_lit 0))), (.int .i64 (.ofNat (nat_lit 0))), (.int .i64 (.ofNat (nat_lit 0))), (.int .i64 (.ofNat (nat_lit 0))), (.int .i64 (.ofNat (nat_lit 0))), (.str (sb []))] []) h fun x7 h =>
  (f60_1 rc x0 x7 x23 x26 h))
  (some ⟨0, [], h⟩)) 1000000 [(.int .i64 (.ofNat (nat_lit 0)))] h)
  fun j vs h => bndV (rLenS x20) fun x54 =>
  bndJ (loopF (fun rc vs h => (f60_5 rc x0 x20 x54 vs h)) 1000000 [(.int .i64 (.ofNat (nat_lit 0)))] h)
  fun j vs h => ret1 (.tuple []) h
noncomputable def f60 (vs : List V) (h : HT) : Option J := unc2 vs fun x0 x1 =>
  bndV (rNilc x0) fun x12 =>
  bndV (rFa 2 x12) fun x13 =>
  bndV (rLd h x13) fun x14 =>
  bndV (rIaS 1 x14 x1) fun x16 =>
  bndV (rLd h x16) fun x17 =>
  bndC (f17 [x17] h) fun x18 h =>
  bndV (rExt 0 x18) fun x19 =>
  bndV (rExt 1 x18) fun x20 =>
  bndV (rLenS x19) fun x22 =>
  (f60_6 x0 x19 x20 x22 h)

/- concord/cluster.New -/
noncomputable def l18 : List (Nat × (List V → HT → Option J)) := [(8, f8), (9, f9), (59, f59), (60, f60)]
noncomputable def t18 : Fns := tab l18
noncomputable def f18_0 (rc : List V → HT → Option J) (x16 : V) (x20 : V) (x32 : V) (x42 : V) (x44 : V) (h : HT) : Option J := bndV (rNilc x16) fun x47 =>
  bndV (rFa 2 x47) fun x48 =>
  bndV (rLd h x48) fun x49 =>
  bndN (rBsl 1 1 [(.ptr none)] [(0, 1)] [x32]) h fun x51 h =>
  bndE (dApp h 1 8 [x42, x44]) h fun x45 h =>
  chk1 (sameE (rLd h x48) x49) (bndE (dApp h 1 8 [x49, x51]) h fun x52 h =>
  bndV (rNilc x16) fun x53 =>
  bndV (rFa 1 x53) fun x54 =>
  bndE (rSt h 1 x54 x45) h fun _ h =>
  bndV (rNilc x16) fun x55 =>
  bndV (rFa 2 x55) fun x56 =>
  bndE (rSt h 1 x56 x52) h fun _ h =>
  bndV (rAdd x20 (.int .i64 (.ofNat (nat_lit 1)))) fun x57 =>
  rc [x57] h)
noncomputable def f18_1 (rc : List V → HT → Option J) (x0 : V) (x16 : V) (x20 : V) (x21 : V) (h : HT) : Option J := tstv x21 (bndC (f8 [(.int .i64 (.ofNat (nat_lit 524288)))] h) fun x24 h =>
  bndV (rExt 0 x24) fun x25 =>
  bndV (rExt 1 x24) fun x26 =>
  bndC (f9 [x0, x20, x25] h) fun x31 h =>
  bndV (rExt 0 x31) fun x32 =>
  bndV (rExt 1 x31) fun x33 =>
  bndV (rNeq x33 (.int .i64 (.ofNat (nat_lit 0)))) fun x35 =>
  tstv x35 (some ⟨1, [(.ptr none), x33], h⟩)
  (bndV (rNilc x16) fun x40 =>
  bndV (rFa 1 x40) fun x41 =>
  bndV (rLd h x41) fun x42 =>
  bndN (rBsl 1 1 [(.ptr none)] [(0, 1)] [x25]) h fun x44 h =>
  (f18_0 rc x16 x20 x32 x42 x44 h)))
  (some ⟨0, [], h⟩)
noncomputable def f18_2 (rc : List V → HT → Option J) (x10 : V) (x16 : V) (x59 : V) (h : HT) : Option J := tstv x59 (bndC (f59 [x10] h) fun x64 h =>
  bndV (rExt 0 x64) fun x65 =>
  bndV (rExt 1 x64) fun x66 =>
  bndV (rNilc x16) fun x69 =>
  bndV (rFa 3 x69) fun x70 =>
  bndV (rLd h x70) fun x71 =>
  bndN (rBsl 1 1 [(.ptr none)] [(0, 1)] [x65]) h fun x73 h =>
  bndE (dApp h 1 8 [x71, x73]) h fun x74 h =>
  bndV (rNilc x16) fun x75 =>
  bndV (rFa 3 x75) fun x76 =>
  bndE (rSt h 1 x76 x74) h fun _ h =>
  bndV (rAdd x10 (.int .i64 (.ofNat (nat_lit 1)))) fun x61 =>
  rc [x61] h)
  (some ⟨0, [], h⟩)
noncomputable def f18_3 (x0 : V) (x16 : V) (h : HT) : Option J := bndJ (loopF (fun rc vs h => unc1 vs fun x10 =>
  bndV (rLeq x10 (.int .i64 (.ofNat (nat_lit 8)))) fun x59 =>
  (f18_2 rc x10 x16 x59 h)) 1000000 [(.int .i64 (.ofNat (nat_lit 1)))] h)
  fun j vs h => bndN (kMkS 7 88 [(.int .i64 (.ofNat (nat_lit 0))), (.int .i64 (.ofNat (nat_lit 0))), (.int .i64 (.ofNat (nat_lit 0))), (.str (sb [])), (.str (sb [])), (.str (sb [])), (.str (sb []))] [(.int .i64 (.ofNat (nat_lit 8))), (.int .i64 (.ofNat (nat_lit 8)))]) h fun x78 h =>
  bndV (rNilc x16) fun x79 =>
  bndV (rFa 4 x79) fun x80 =>
  bndE (rSt h 1 x80 x78) h fun _ h =>
  bndJ (loopF (fun rc vs h => unc1 vs fun x82 =>
  bndV (rLss x82 x0) fun x83 =>
  tstv x83 (bndC (f60 [x16, x82] h) fun x87 h =>
  bndV (rAdd x82 (.int .i64 (.ofNat (nat_lit 1)))) fun x88 =>
  rc [x88] h)
  (some ⟨0, [], h⟩)) 1000000 [(.int .i64 (.ofNat (nat_lit 0)))] h)
  fun j vs h => ret1 (.tuple [x16, (.int .i64 (.ofNat (nat_lit 0)))]) h
noncomputable def f18 (vs : List V) (h : HT) : Option J := unc1 vs fun x0 =>
  bndV (rBld [(.int .i64 (.ofNat (nat_lit 0))), (.slice none 0 true 0), (.slice none 0 true 0), (.slice none 0 true 0), (.slice none 0 true 0), (.slice none 0 true 0), (.slice none 0 true 0)] [(0, 1)] [x0]) fun x15 =>
  bndN (rBox x15) h fun x16 h =>
  bndV (rMax x0 (.int .i64 (.ofNat (nat_lit 1)))) fun x18 =>
  bndV (rMin x18 (.int .i64 (.ofNat (nat_lit 8)))) fun x19 =>
  bndJ (loopF (fun rc vs h => unc1 vs fun x20 =>
  bndV (rLss x20 x19) fun x21 =>
  (f18_1 rc x0 x16 x20 x21 h)) 1000000 [(.int .i64 (.ofNat (nat_lit 0)))] h)
  fun j vs h => nsw j ((f18_3 x0 x16 h))
  fun j => unc2 vs fun x2 x3 =>
  ret1 (.tuple [x2, x3]) h

/- (*concord/cluster.Cluster).Node -/
noncomputable def l22 : List (Nat × (List V → HT → Option J)) := []
noncomputable def t22 : Fns := tab l22
noncomputable def f22_0 (x0 : V) (x1 : V) (x6 : V) (h : HT) : Option J := bndC (gsel x6 false (retV (kMov [x1]) h) h) fun x8 h =>
  bndC (gsel x6 false (retV (kMov [x0]) h) h) fun x9 h =>
  bndC (gsel x6 false (retV (rNilc x9) h) h) fun x10 h =>
  bndC (gsel x6 false (retV (rFa 0 x10) h) h) fun x11 h =>
  bndC (gsel x6 false (retV (rLd h x11) h) h) fun x12 h =>
  bndC (gsel x6 false (retV (rGeq x8 x12) h) h) fun x13 h =>
  bndV (rPick x6 (.bool true) x13) fun x14 =>
  tstv x14 (ret1 (.ptr none) h)
  (bndV (rNilc x0) fun x16 =>
  bndV (rFa 2 x16) fun x17 =>
  bndV (rLd h x17) fun x18 =>
  bndV (rIaS 1 x18 x1) fun x20 =>
  bndV (rLd h x20) fun x21 =>
  ret1 x21 h)
noncomputable def f22 (vs : List V) (h : HT) : Option J := unc2 vs fun x0 x1 =>
  bndV (rLss x1 (.int .i64 (.ofNat (nat_lit 0)))) fun x6 =>
  (f22_0 x0 x1 x6 h)

/- (*concord/client.Client).Begin -/
noncomputable def l146 : List (Nat × (List V → HT → Option J)) := [(48, f48)]
noncomputable def t146 : Fns := tab l146
noncomputable def f146_0 (x0 : V) (x2 : V) (x4 : V) (x6 : V) (x49 : V) (x53 : V) (h : HT) : Option J := bndV (rFa 2 x53) fun x54 =>
  bndE (rSt h 7 x54 x49) h fun _ h =>
  bndV (rNilc x0) fun x55 =>
  bndV (rFa 9 x55) fun x56 =>
  bndE (rSt h 1 x56 (.bool true)) h fun _ h =>
  bndV (rNilc x0) fun x57 =>
  bndV (rFa 10 x57) fun x58 =>
  bndE (rSt h 1 x58 x2) h fun _ h =>
  bndV (rNilc x0) fun x59 =>
  bndV (rFa 11 x59) fun x60 =>
  bndE (rSt h 1 x60 (.int .i64 (.ofNat (nat_lit 0)))) h fun _ h =>
  bndV (rLdN h 7 x4) fun x61 =>
  bndE (rSt h 7 x6 x61) h fun _ h =>
  bndV (qLd h (some 7) [x6]) fun x900000 =>
  ret1 (.tuple [x900000, (.bool true)]) h
noncomputable def f146_1 (x0 : V) (x2 : V) (x4 : V) (x6 : V) (x36 : V) (x39 : V) (h : HT) : Option J := bndV (rPick x36 (.bool true) x39) fun x40 =>
  tstv x40 (bndV (rBld [(.int .i64 (.ofNat (nat_lit 0))), (.int .i64 (.ofNat (nat_lit 0))), (.int .i64 (.ofNat (nat_lit 0))), (.str (sb [])), (.str (sb [])), (.str (sb [])), (.str (sb []))] [] []) fun x41 =>
  bndE (rSt h 7 x6 x41) h fun _ h =>
  bndV (qLd h (some 7) [x6]) fun x900000 =>
  ret1 (.tuple [x900000, (.bool false)]) h)
  (bndV (rFa 2 x4) fun x47 =>
  bndV (rLd h x47) fun x48 =>
  bndV (rLdN h 7 x4) fun x49 =>
  bndV (rNilc x0) fun x51 =>
  bndV (rFa 1 x51) fun x52 =>
  bndE (rSt h 1 x52 x48) h fun _ h =>
  chk1 (sameE (rLdN h 7 x4) x49) (bndV (rNilc x0) fun x53 =>
  (f146_0 x0 x2 x4 x6 x49 x53 h)))
noncomputable def f146_2 (x0 : V) (x2 : V) (x4 : V) (x6 : V) (x21 : V) (h : HT) : Option J := bndV (rLd h x21) fun x22 =>
  bndC (gsel x22 false (retV (rLdN h 7 x4) h) h) fun x24 h =>
  bndC (gsel x22 false (f48 [x24] h) h) fun x25 h =>
  bndC (gsel x22 false (retV (rNot x25) h) h) fun x26 h =>
  bndV (rPick x22 (.bool true) x26) fun x27 =>
  bndC (gsel x27 false (retV (rFa 0 x4) h) h) fun x29 h =>
  bndC (gsel x27 false (retV (rLd h x29) h) h) fun x30 h =>
  bndC (gsel x27 false (retV (rEql x30 (.int .i64 (.ofNat (nat_lit 0)))) h) h) fun x31 h =>
  bndV (rPick x27 (.bool true) x31) fun x32 =>
  bndC (gsel x32 false (retV (kMov [x2]) h) h) fun x34 h =>
  bndC (gsel x32 false (retV (rLss x34 (.int .i64 (.ofNat (nat_lit 0)))) h) h) fun x35 h =>
  bndV (rPick x32 (.bool true) x35) fun x36 =>
  bndC (gsel x36 false (retV (kMov [x2]) h) h) fun x38 h =>
  bndC (gsel x36 false (retV (rGeq x38 (.int .i64 (.ofNat (nat_lit 7)))) h) h) fun x39 h =>
  (f146_1 x0 x2 x4 x6 x36 x39 h)
noncomputable def f146_3 (x0 : V) (x2 : V) (x4 : V) (x6 : V) (h : HT) : Option J := bndV (rNilc x0) fun x9 =>
  bndV (rFa 0 x9) fun x10 =>
  bndV (rLd h x10) fun x11 =>
  bndV (rNilc x0) fun x13 =>
  bndV (rFa 1 x13) fun x14 =>
  bndV (rLd h x14) fun x15 =>
  bndV (rAdd x15 (.int .i64 (.ofNat (nat_lit 1)))) fun x16 =>
  bndV (rFa 1 x4) fun x17 =>
  bndE (rSt h 1 x17 x11) h fun _ h =>
  chk1 (sameE (rLd h x14) x15) (bndV (rFa 2 x4) fun x18 =>
  bndE (rSt h 1 x18 x16) h fun _ h =>
  bndV (rNilc x0) fun x20 =>
  bndV (rFa 9 x20) fun x21 =>
  (f146_2 x0 x2 x4 x6 x21 h))
noncomputable def f146 (vs : List V) (h : HT) : Option J := unc3 vs fun x0 x1 x2 =>
  bndN (rBox x1) h fun x4 h =>
  bndN (rAlloc [(.int .i64 (.ofNat (nat_lit 0))), (.int .i64 (.ofNat (nat_lit 0))), (.int .i64 (.ofNat (nat_lit 0))), (.str (sb [])), (.str (sb [])), (.str (sb [])), (.str (sb []))] []) h fun x6 h =>
  (f146_3 x0 x2 x4 x6 h)

/- (*concord/cluster.Cluster).comes -/
noncomputable def l147 : List (Nat × (List V → HT → Option J)) := [(12, f12), (22, f22), (60, f60)]
noncomputable def t147 : Fns := tab l147

noncomputable def f147 (vs : List V) (h : HT) : Option J := unc3 vs fun x0 x1 x2 =>
  bndN (rBox x1) h fun x4 h =>
  bndC (f22 [x0, x2] h) fun x9 h =>
  bndV (kEqN true [x9, (.ptr none)]) fun x11 =>
  tstv x11 (bndV (rLdN h 7 x4) fun x13 =>
  bndC (f12 [x9, x13] h) fun x14 h =>
  bndC (f60 [x0, x2] h) fun x17 h =>
  ret1 (.tuple []) h)
  (ret1 (.tuple []) h)

/- (*concord/cluster.Cluster).call -/
noncomputable def l61 : List (Nat × (List V → HT → Option J)) := [(144, f144), (146, f146), (147, f147)]
noncomputable def t61 : Fns := tab l61
noncomputable def f61_0 (x0 : V) (x3 : V) (x5 : V) (x56 : V) (h : HT) : Option J := bndV (rLd h x56) fun x57 =>
  bndV (rFa 3 x3) fun x58 =>
  bndV (rLd h x58) fun x59 =>
  bndV (rLdN h 7 x5) fun x60 =>
  bndV (rBld [(.int .i64 (.ofNat (nat_lit 0))), (.int .i64 (.ofNat (nat_lit 0))), (.int .i64 (.ofNat (nat_lit 0))), (.int .i64 (.ofNat (nat_lit 0))), (.int .i64 (.ofNat (nat_lit 0))), (.str (sb [])), (.str (sb [])), (.str (sb [])), (.str (sb [])), (.int .i64 (.ofNat (nat_lit 0))), (.bool false), (.str (sb [])), (.int .i64 (.ofNat (nat_lit 0))), (.slice none 0 true 0)] [(0, 1), (1, 1), (2, 7)] [(.int .i64 (.ofNat (nat_lit 1))), x59, x60]) fun x61 =>
  bndN (rBsl 14 1 [(.int .i64 (.ofNat (nat_lit 0))), (.int .i64 (.ofNat (nat_lit 0))), (.int .i64 (.ofNat (nat_lit 0))), (.int .i64 (.ofNat (nat_lit 0))), (.int .i64 (.ofNat (nat_lit 0))), (.str (sb [])), (.str (sb [])), (.str (sb [])), (.str (sb [])), (.int .i64 (.ofNat (nat_lit 0))), (.bool false), (.str (sb [])), (.int .i64 (.ofNat (nat_lit 0))), (.slice none 0 true 0)] [(0, 14)] [x61]) h fun x62 h =>
  bndE (dApp h 14 168 [x57, x62]) h fun x63 h =>
  bndV (rNilc x0) fun x64 =>
  bndV (rFa 6 x64) fun x65 =>
  bndE (rSt h 1 x65 x63) h fun _ h =>
  bndV (rLdN h 7 x5) fun x67 =>
  bndV (rFa 1 x3) fun x68 =>
  bndV (rLd h x68) fun x69 =>
  bndC (f147 [x0, x67, x69] h) fun x70 h =>
  ret1 (.bool true) h
noncomputable def f61_1 (x0 : V) (x3 : V) (x5 : V) (x41 : V) (h : HT) : Option J := bndV (rNot x41) fun x43 =>
  tstv x43 (ret1 (.bool false) h)
  (bndV (rNilc x0) fun x45 =>
  bndV (rFa 4 x45) fun x46 =>
  bndV (rLd h x46) fun x47 =>
  bndV (rFa 3 x3) fun x48 =>
  bndV (rLd h x48) fun x49 =>
  bndV (rSub x49 (.int .i64 (.ofNat (nat_lit 1)))) fun x50 =>
  bndV (rLdN h 7 x5) fun x51 =>
  bndV (rIaS 7 x47 x50) fun x52 =>
  bndE (rSt h 7 x52 x51) h fun _ h =>
  bndV (rNilc x0) fun x55 =>
  bndV (rFa 6 x55) fun x56 =>
  (f61_0 x0 x3 x5 x56 h))
noncomputable def f61_2 (x0 : V) (x3 : V) (x29 : V) (h : HT) : Option J := bndV (rFa 3 x3) fun x30 =>
  bndV (rLd h x30) fun x31 =>
  bndV (rSub x31 (.int .i64 (.ofNat (nat_lit 1)))) fun x32 =>
  bndV (rIaS 1 x29 x32) fun x33 =>
  bndV (rLd h x33) fun x34 =>
  bndV (rFa 4 x3) fun x35 =>
  bndV (rLdN h 7 x35) fun x36 =>
  bndV (rFa 1 x3) fun x37 =>
  bndV (rLd h x37) fun x38 =>
  bndN (rAlloc [(.int .i64 (.ofNat (nat_lit 0))), (.int .i64 (.ofNat (nat_lit 0))), (.int .i64 (.ofNat (nat_lit 0))), (.str (sb [])), (.str (sb [])), (.str (sb [])), (.str (sb []))] []) h fun x5 h =>
  bndC (f146 [x34, x36, x38] h) fun x39 h =>
  bndV (rExt 0 x39) fun x40 =>
  bndV (rExt 1 x39) fun x41 =>
  bndE (rSt h 7 x5 x40) h fun _ h =>
  (f61_1 x0 x3 x5 x41 h)
noncomputable def f61_3 (x0 : V) (x3 : V) (x10 : V) (x14 : V) (h : HT) : Option J := bndV (rPick x10 (.bool true) x14) fun x15 =>
  bndC (gsel x15 false (retV (rFa 1 x3) h) h) fun x17 h =>
  bndC (gsel x15 false (retV (rLd h x17) h) h) fun x18 h =>
  bndC (gsel x15 false (retV (kMov [x0]) h) h) fun x19 h =>
  bndC (gsel x15 false (retV (rNilc x19) h) h) fun x20 h =>
  bndC (gsel x15 false (retV (rFa 0 x20) h) h) fun x21 h =>
  bndC (gsel x15 false (retV (rLd h x21) h) h) fun x22 h =>
  bndC (gsel x15 false (retV (rGeq x18 x22) h) h) fun x23 h =>
  bndV (rPick x15 (.bool true) x23) fun x24 =>
  tstv x24 (ret1 (.bool false) h)
  (bndV (rNilc x0) fun x27 =>
  bndV (rFa 3 x27) fun x28 =>
  bndV (rLd h x28) fun x29 =>
  (f61_2 x0 x3 x29 h))
noncomputable def f61 (vs : List V) (h : HT) : Option J := unc2 vs fun x0 x1 =>
  bndN (rBox x1) h fun x3 h =>
  bndV (rFa 3 x3) fun x7 =>
  bndV (rLd h x7) fun x8 =>
  bndC (f144 [x8] h) fun x9 h =>
  bndV (rNot x9) fun x10 =>
  bndC (gsel x10 false (retV (rFa 1 x3) h) h) fun x12 h =>
  bndC (gsel x10 false (retV (rLd h x12) h) h) fun x13 h =>
  bndC (gsel x10 false (retV (rLss x13 (.int .i64 (.ofNat (nat_lit 0)))) h) h) fun x14 h =>
  (f61_3 x0 x3 x10 x14 h)

/- (*concord/cluster.Cluster).letter -/
noncomputable def l62 : List (Nat × (List V → HT → Option J)) := [(16, f16), (22, f22), (60, f60), (148, cDelLetter)]
noncomputable def t62 : Fns := tab l62
noncomputable def f62_0 (x0 : V) (x3 : V) (x30 : V) (h : HT) : Option J := tstv x30 (bndV (rNilc x0) fun x33 =>
  bndV (rFa 5 x33) fun x34 =>
  bndV (rLd h x34) fun x35 =>
  bndV (rFa 1 x3) fun x36 =>
  bndV (rLd h x36) fun x37 =>
  bndV (rFa 1 x3) fun x38 =>
  bndV (rLd h x38) fun x39 =>
  bndV (rAdd x39 (.int .i64 (.ofNat (nat_lit 1)))) fun x40 =>
  bndC (cDelLetter [x35, x37, x40] h) fun x41 h =>
  bndV (rNilc x0) fun x42 =>
  bndV (rFa 5 x42) fun x43 =>
  bndE (rSt h 1 x43 x41) h fun _ h =>
  some ⟨0, [], h⟩)
  (some ⟨0, [], h⟩)
noncomputable def f62_1 (x0 : V) (x3 : V) (x5 : V) (x46 : V) (h : HT) : Option J := bndC (f22 [x0, x46] h) fun x47 h =>
  bndV (rFa 0 x3) fun x48 =>
  bndV (rLd h x48) fun x49 =>
  bndV (rNeq x49 (.int .i64 (.ofNat (nat_lit 4)))) fun x50 =>
  bndC (gsel x50 true (retV (kMov [x47]) h) h) fun x52 h =>
  bndC (gsel x50 true (retV (kEqN true [x52, (.ptr none)]) h) h) fun x53 h =>
  bndV (rPick x50 x53 (.bool false)) fun x54 =>
  tstv x54 (bndV (rLdN h 51 x5) fun x56 =>
  bndC (f16 [x47, x56] h) fun x57 h =>
  bndV (rFa 2 x5) fun x59 =>
  bndV (rLd h x59) fun x60 =>
  bndC (f60 [x0, x60] h) fun x61 h =>
  ret1 (.bool true) h)
  (ret1 (.bool true) h)
noncomputable def f62_2 (x0 : V) (x3 : V) (x22 : V) (h : HT) : Option J := bndV (rLd h x22) fun x23 =>
  bndV (rFa 1 x3) fun x24 =>
  bndV (rLd h x24) fun x25 =>
  bndV (rIaS 51 x23 x25) fun x26 =>
  bndV (rLdN h 51 x26) fun x27 =>
  bndN (rAlloc [(.int .i64 (.ofNat (nat_lit 0))), (.int .i64 (.ofNat (nat_lit 0))), (.int .i64 (.ofNat (nat_lit 0))), (.int .i64 (.ofNat (nat_lit 0))), (.int .i64 (.ofNat (nat_lit 0))), (.int .i64 (.ofNat (nat_lit 0))), (.int .i64 (.ofNat (nat_lit 0))), (.int .i64 (.ofNat (nat_lit 0))), (.int .i64 (.ofNat (nat_lit 0))), (.int .i64 (.ofNat (nat_lit 0))), (.str (sb [])), (.str (sb [])), (.str (sb [])), (.str (sb [])), (.int .i64 (.ofNat (nat_lit 0))), (.int .i64 (.ofNat (nat_lit 0))), (.int .i64 (.ofNat (nat_lit 0))), (.int .i64 (.ofNat (nat_lit 0))), (.int .i64 (.ofNat (nat_lit 0))), (.int .i64 (.ofNat (nat_lit 0))), (.int .i64 (.ofNat (nat_lit 0))), (.int .i64 (.ofNat (nat_lit 0))), (.int .i64 (.ofNat (nat_lit 0))), (.int .i64 (.ofNat (nat_lit 0))), (.int .i64 (.ofNat (nat_lit 0))), (.int .i64 (.ofNat (nat_lit 0))), (.int .i64 (.ofNat (nat_lit 0))), (.int .i64 (.ofNat (nat_lit 0))), (.int .i64 (.ofNat (nat_lit 0))), (.int .i64 (.ofNat (nat_lit 0))), (.str (sb [])), (.str (sb [])), (.str (sb [])), (.str (sb [])), (.int .i64 (.ofNat (nat_lit 0))), (.int .i64 (.ofNat (nat_lit 0))), (.int .i64 (.ofNat (nat_lit 0))), (.int .i64 (.ofNat (nat_lit 0))), (.int .i64 (.ofNat (nat_lit 0))), (.int .i64 (.ofNat (nat_lit 0))), (.int .i64 (.ofNat (nat_lit 0))), (.int .i64 (.ofNat (nat_lit 0))), (.bool false), (.int .i64 (.ofNat (nat_lit 0))), (.int .i64 (.ofNat (nat_lit 0))), (.int .i64 (.ofNat (nat_lit 0))), (.int .i64 (.ofNat (nat_lit 0))), (.int .i64 (.ofNat (nat_lit 0))), (.int .i64 (.ofNat (nat_lit 0))), (.int .i64 (.ofNat (nat_lit 0))), (.str (sb []))] []) h fun x5 h =>
  bndE (rSt h 51 x5 x27) h fun _ h =>
  bndV (rFa 0 x3) fun x28 =>
  bndV (rLd h x28) fun x29 =>
  bndV (rNeq x29 (.int .i64 (.ofNat (nat_lit 3)))) fun x30 =>
  bndJ ((f62_0 x0 x3 x30 h))
  fun j vs h => bndV (rFa 2 x5) fun x45 =>
  bndV (rLd h x45) fun x46 =>
  (f62_1 x0 x3 x5 x46 h)
noncomputable def f62_3 (x0 : V) (x3 : V) (x8 : V) (h : HT) : Option J := bndV (rLss x8 (.int .i64 (.ofNat (nat_lit 0)))) fun x9 =>
  bndC (gsel x9 false (retV (rFa 1 x3) h) h) fun x11 h =>
  bndC (gsel x9 false (retV (rLd h x11) h) h) fun x12 h =>
  bndC (gsel x9 false (retV (kMov [x0]) h) h) fun x13 h =>
  bndC (gsel x9 false (retV (rNilc x13) h) h) fun x14 h =>
  bndC (gsel x9 false (retV (rFa 5 x14) h) h) fun x15 h =>
  bndC (gsel x9 false (retV (rLd h x15) h) h) fun x16 h =>
  bndC (gsel x9 false (retV (rLenS x16) h) h) fun x17 h =>
  bndC (gsel x9 false (retV (rGeq x12 x17) h) h) fun x18 h =>
  bndV (rPick x9 (.bool true) x18) fun x19 =>
  tstv x19 (ret1 (.bool false) h)
  (bndV (rNilc x0) fun x21 =>
  bndV (rFa 5 x21) fun x22 =>
  (f62_2 x0 x3 x22 h))
noncomputable def f62 (vs : List V) (h : HT) : Option J := unc2 vs fun x0 x1 =>
  bndN (rBox x1) h fun x3 h =>
  bndV (rFa 1 x3) fun x7 =>
  bndV (rLd h x7) fun x8 =>
  (f62_3 x0 x3 x8 h)

/- (*concord/client.Client).Tick -/
noncomputable def l149 : List (Nat × (List V → HT → Option J)) := []
noncomputable def t149 : Fns := tab l149
noncomputable def f149_0 (x0 : V) (x1 : V) (x4 : V) (x35 : V) (h : HT) : Option J := bndV (rAdd x35 (.int .i64 (.ofNat (nat_lit 1)))) fun x36 =>
  bndV (qBin .rem [x36, x1]) fun x38 =>
  bndV (rNilc x0) fun x39 =>
  bndV (rFa 10 x39) fun x40 =>
  bndE (rSt h 1 x40 x38) h fun _ h =>
  bndV (rNilc x0) fun x42 =>
  bndV (rFa 2 x42) fun x43 =>
  bndV (rLdN h 7 x43) fun x44 =>
  bndV (rNilc x0) fun x46 =>
  bndV (rFa 10 x46) fun x47 =>
  bndV (rLd h x47) fun x48 =>
  bndE (rSt h 7 x4 x44) h fun _ h =>
  chk1 (sameE (rLd h x47) x48) (bndV (qLd h (some 7) [x4]) fun x900000 =>
  ret1 (.tuple [x900000, x48, (.bool true)]) h)
noncomputable def f149_1 (x0 : V) (x1 : V) (x4 : V) (x21 : V) (x23 : V) (h : HT) : Option J := bndE (rSt h 1 x23 x21) h fun _ h =>
  bndV (rNilc x0) fun x25 =>
  bndV (rFa 11 x25) fun x26 =>
  bndV (rLd h x26) fun x27 =>
  bndV (qBin .rem [x27, (.int .i64 (.ofNat (nat_lit 20)))]) fun x28 =>
  bndV (rNeq x28 (.int .i64 (.ofNat (nat_lit 0)))) fun x29 =>
  tstv x29 (bndV (rBld [(.int .i64 (.ofNat (nat_lit 0))), (.int .i64 (.ofNat (nat_lit 0))), (.int .i64 (.ofNat (nat_lit 0))), (.str (sb [])), (.str (sb [])), (.str (sb [])), (.str (sb []))] [] []) fun x30 =>
  bndE (rSt h 7 x4 x30) h fun _ h =>
  bndV (qLd h (some 7) [x4]) fun x900000 =>
  ret1 (.tuple [x900000, (.int .i64 (.ofNat (nat_lit 0))), (.bool false)]) h)
  (bndV (rNilc x0) fun x33 =>
  bndV (rFa 10 x33) fun x34 =>
  bndV (rLd h x34) fun x35 =>
  (f149_0 x0 x1 x4 x35 h))
noncomputable def f149_2 (x0 : V) (x1 : V) (x4 : V) (x11 : V) (h : HT) : Option J := bndC (gsel x11 false (retV (kMov [x1]) h) h) fun x13 h =>
  bndC (gsel x11 false (retV (rLss x13 (.int .i64 (.ofNat (nat_lit 1)))) h) h) fun x14 h =>
  bndV (rPick x11 (.bool true) x14) fun x15 =>
  tstv x15 (bndV (rBld [(.int .i64 (.ofNat (nat_lit 0))), (.int .i64 (.ofNat (nat_lit 0))), (.int .i64 (.ofNat (nat_lit 0))), (.str (sb [])), (.str (sb [])), (.str (sb [])), (.str (sb []))] [] []) fun x16 =>
  bndE (rSt h 7 x4 x16) h fun _ h =>
  bndV (qLd h (some 7) [x4]) fun x900000 =>
  ret1 (.tuple [x900000, (.int .i64 (.ofNat (nat_lit 0))), (.bool false)]) h)
  (bndV (rNilc x0) fun x18 =>
  bndV (rFa 11 x18) fun x19 =>
  bndV (rLd h x19) fun x20 =>
  bndV (rAdd x20 (.int .i64 (.ofNat (nat_lit 1)))) fun x21 =>
  bndV (rNilc x0) fun x22 =>
  bndV (rFa 11 x22) fun x23 =>
  (f149_1 x0 x1 x4 x21 x23 h))
noncomputable def f149 (vs : List V) (h : HT) : Option J := unc2 vs fun x0 x1 =>
  bndN (rAlloc [(.int .i64 (.ofNat (nat_lit 0))), (.int .i64 (.ofNat (nat_lit 0))), (.int .i64 (.ofNat (nat_lit 0))), (.str (sb [])), (.str (sb [])), (.str (sb [])), (.str (sb []))] []) h fun x4 h =>
  bndV (rNilc x0) fun x8 =>
  bndV (rFa 9 x8) fun x9 =>
  bndV (rLd h x9) fun x10 =>
  bndV (rNot x10) fun x11 =>
  (f149_2 x0 x1 x4 x11 h)

/- (*concord/cluster.Cluster).time -/
noncomputable def l63 : List (Nat × (List V → HT → Option J)) := [(144, f144), (147, f147), (149, f149)]
noncomputable def t63 : Fns := tab l63
noncomputable def f63_0 (x0 : V) (x18 : V) (h : HT) : Option J := bndV (rLd h x18) fun x19 =>
  bndV (rNilc x0) fun x21 =>
  bndV (rFa 0 x21) fun x22 =>
  bndV (rLd h x22) fun x23 =>
  bndN (rAlloc [(.int .i64 (.ofNat (nat_lit 0))), (.int .i64 (.ofNat (nat_lit 0))), (.int .i64 (.ofNat (nat_lit 0))), (.str (sb [])), (.str (sb [])), (.str (sb [])), (.str (sb []))] []) h fun x5 h =>
  bndC (f149 [x19, x23] h) fun x24 h =>
  bndV (rExt 0 x24) fun x25 =>
  bndV (rExt 1 x24) fun x26 =>
  bndV (rExt 2 x24) fun x27 =>
  bndE (rSt h 7 x5 x25) h fun _ h =>
  tstv x27 (bndV (rLdN h 7 x5) fun x30 =>
  bndC (f147 [x0, x30, x26] h) fun x32 h =>
  ret1 (.bool true) h)
  (ret1 (.bool true) h)
noncomputable def f63 (vs : List V) (h : HT) : Option J := unc2 vs fun x0 x1 =>
  bndC (f144 [x1] h) fun x9 h =>
  bndV (rNot x9) fun x10 =>
  tstv x10 (ret1 (.bool false) h)
  (bndV (rNilc x0) fun x13 =>
  bndV (rFa 3 x13) fun x14 =>
  bndV (rLd h x14) fun x15 =>
  bndV (rSub x1 (.int .i64 (.ofNat (nat_lit 1)))) fun x17 =>
  bndV (rIaS 1 x15 x17) fun x18 =>
  (f63_0 x0 x18 h))

/- (*concord/cluster.Cluster).start -/
noncomputable def l64 : List (Nat × (List V → HT → Option J)) := [(9, f9), (60, f60)]
noncomputable def t64 : Fns := tab l64
noncomputable def f64_0 (x0 : V) (x1 : V) (x31 : V) (x36 : V) (h : HT) : Option J := bndV (rIaS 1 x36 x1) fun x38 =>
  bndV (rLd h x38) fun x39 =>
  bndC (f9 [x31, x1, x39] h) fun x40 h =>
  bndV (rExt 0 x40) fun x41 =>
  bndV (rExt 1 x40) fun x42 =>
  bndV (rNeq x42 (.int .i64 (.ofNat (nat_lit 0)))) fun x44 =>
  tstv x44 (ret1 (.bool false) h)
  (bndV (rNilc x0) fun x46 =>
  bndV (rFa 2 x46) fun x47 =>
  bndV (rLd h x47) fun x48 =>
  bndV (rIaS 1 x48 x1) fun x51 =>
  bndE (rSt h 1 x51 x41) h fun _ h =>
  bndC (f60 [x0, x1] h) fun x54 h =>
  ret1 (.bool true) h)
noncomputable def f64_1 (x0 : V) (x1 : V) (x16 : V) (x20 : V) (h : HT) : Option J := bndC (gsel x16 false (retV (rLd h x20) h) h) fun x21 h =>
  bndC (gsel x16 false (retV (kMov [x1]) h) h) fun x22 h =>
  bndC (gsel x16 false (retV (rIaS 1 x21 x22) h) h) fun x23 h =>
  bndC (gsel x16 false (retV (rLd h x23) h) h) fun x24 h =>
  bndC (gsel x16 false (retV (kEqN true [x24, (.ptr none)]) h) h) fun x25 h =>
  bndV (rPick x16 (.bool true) x25) fun x26 =>
  tstv x26 (ret1 (.bool false) h)
  (bndV (rNilc x0) fun x29 =>
  bndV (rFa 0 x29) fun x30 =>
  bndV (rLd h x30) fun x31 =>
  bndV (rNilc x0) fun x34 =>
  bndV (rFa 1 x34) fun x35 =>
  bndV (rLd h x35) fun x36 =>
  (f64_0 x0 x1 x31 x36 h))
noncomputable def f64 (vs : List V) (h : HT) : Option J := unc2 vs fun x0 x1 =>
  bndV (rLss x1 (.int .i64 (.ofNat (nat_lit 0)))) fun x8 =>
  bndC (gsel x8 false (retV (kMov [x1]) h) h) fun x10 h =>
  bndC (gsel x8 false (retV (kMov [x0]) h) h) fun x11 h =>
  bndC (gsel x8 false (retV (rNilc x11) h) h) fun x12 h =>
  bndC (gsel x8 false (retV (rFa 0 x12) h) h) fun x13 h =>
  bndC (gsel x8 false (retV (rLd h x13) h) h) fun x14 h =>
  bndC (gsel x8 false (retV (rGeq x10 x14) h) h) fun x15 h =>
  bndV (rPick x8 (.bool true) x15) fun x16 =>
  bndC (gsel x16 false (retV (kMov [x0]) h) h) fun x18 h =>
  bndC (gsel x16 false (retV (rNilc x18) h) h) fun x19 h =>
  bndC (gsel x16 false (retV (rFa 2 x19) h) h) fun x20 h =>
  (f64_1 x0 x1 x16 x20 h)

/- (*concord/core.Core).wished -/
noncomputable def l215 : List (Nat × (List V → HT → Option J)) := []
noncomputable def t215 : Fns := tab l215
noncomputable def f215_0 (rc : List V → HT → Option J) (x3 : V) (x10 : V) (x11 : V) (vs : List V) (h : HT) : Option J := unc1 vs fun x12 =>
  bndV (rLss x12 x11) fun x13 =>
  tstv x13 (bndV (rIaS 1 x10 x12) fun x14 =>
  bndV (rLd h x14) fun x15 =>
  bndV (rNilc x15) fun x17 =>
  bndV (rFa 0 x17) fun x18 =>
  bndV (rLdN h 2 x18) fun x19 =>
  bndV (rLdN h 2 x3) fun x20 =>
  bndV (kEqF false [.i, .i] [x19, x20]) fun x21 =>
  tstv x21 (some ⟨1, [x15], h⟩)
  (bndV (rAdd x12 (.int .i64 (.ofNat (nat_lit 1)))) fun x23 =>
  rc [x23] h))
  (some ⟨0, [], h⟩)
noncomputable def f215 (vs : List V) (h : HT) : Option J := unc2 vs fun x0 x1 =>
  bndN (rBox x1) h fun x3 h =>
  bndV (rNilc x0) fun x8 =>
  bndV (rFa 5 x8) fun x9 =>
  bndV (rLd h x9) fun x10 =>
  bndV (rLenS x10) fun x11 =>
  bndJ (loopF (fun rc vs h => (f215_0 rc x3 x10 x11 vs h)) 1000000 [(.int .i64 (.ofNat (nat_lit 0)))] h)
  fun j vs h => nsw j (ret1 (.ptr none) h)
  fun j => unc1 vs fun x4 =>
  ret1 x4 h

/- (*concord/core.Core).open -/
noncomputable def l222 : List (Nat × (List V → HT → Option J)) := [(133, f133), (138, f138), (139, f139), (205, f205)]
noncomputable def t222 : Fns := tab l222
noncomputable def f222_0 (x0 : V) (x3 : V) (x24 : V) (h : HT) : Option J := tstv x24 (ret1 (.bool false) h)
  (bndV (rNilc x0) fun x27 =>
  bndV (rFa 2 x27) fun x28 =>
  bndV (rLd h x28) fun x29 =>
  bndV (rLdN h 2 x3) fun x30 =>
  bndN (rAlloc [(.int .i64 (.ofNat (nat_lit 0))), (.int .i64 (.ofNat (nat_lit 0))), (.int .i64 (.ofNat (nat_lit 0))), (.int .i64 (.ofNat (nat_lit 0))), (.int .i64 (.ofNat (nat_lit 0))), (.int .i64 (.ofNat (nat_lit 0))), (.int .i64 (.ofNat (nat_lit 0))), (.int .i64 (.ofNat (nat_lit 0))), (.str (sb [])), (.str (sb [])), (.str (sb [])), (.str (sb [])), (.int .i64 (.ofNat (nat_lit 0))), (.int .i64 (.ofNat (nat_lit 0))), (.int .i64 (.ofNat (nat_lit 0))), (.int .i64 (.ofNat (nat_lit 0))), (.int .i64 (.ofNat (nat_lit 0))), (.int .i64 (.ofNat (nat_lit 0))), (.int .i64 (.ofNat (nat_lit 0))), (.int .i64 (.ofNat (nat_lit 0))), (.bool false)] []) h fun x5 h =>
  bndC (f205 [x29, x30] h) fun x31 h =>
  bndV (rExt 0 x31) fun x32 =>
  bndV (rExt 1 x31) fun x33 =>
  bndE (rSt h 21 x5 x32) h fun _ h =>
  bndV (rFa 0 x5) fun x34 =>
  bndV (rLd h x34) fun x35 =>
  bndV (rNeq x35 (.int .i64 (.ofNat (nat_lit 3)))) fun x36 =>
  ret1 x36 h)
noncomputable def f222_1 (x0 : V) (x3 : V) (x8 : V) (h : HT) : Option J := bndV (rNot x8) fun x9 =>
  bndC (gsel x9 false (retV (kMov [x0]) h) h) fun x11 h =>
  bndC (gsel x9 false (retV (rFa 0 x3) h) h) fun x12 h =>
  bndC (gsel x9 false (retV (rLd h x12) h) h) fun x13 h =>
  bndC (gsel x9 false (f138 [x11, x13] h) h) fun x14 h =>
  bndC (gsel x9 false (retV (rNot x14) h) h) fun x15 h =>
  bndV (rPick x9 (.bool true) x15) fun x16 =>
  bndC (gsel x16 false (retV (kMov [x0]) h) h) fun x18 h =>
  bndC (gsel x16 false (retV (rNilc x18) h) h) fun x19 h =>
  bndC (gsel x16 false (retV (rFa 2 x19) h) h) fun x20 h =>
  bndC (gsel x16 false (retV (rLd h x20) h) h) fun x21 h =>
  bndC (gsel x16 false (retV (rLdN h 2 x3) h) h) fun x22 h =>
  bndC (gsel x16 false (f139 [x21, x22] h) h) fun x23 h =>
  bndV (rPick x16 (.bool true) x23) fun x24 =>
  (f222_0 x0 x3 x24 h)
noncomputable def f222 (vs : List V) (h : HT) : Option J := unc2 vs fun x0 x1 =>
  bndN (rBox x1) h fun x3 h =>
  bndV (rLdN h 2 x3) fun x7 =>
  bndC (f133 [x7] h) fun x8 h =>
  (f222_1 x0 x3 x8 h)

/- slices.Insert[[]*concord/core.wish,*concord/core.wish] -/
noncomputable def l274 : List (Nat × (List V → HT → Option J)) := []
noncomputable def t274 : Fns := tab l274
noncomputable def f274_0 (x0 : V) (x1 : V) (x2 : V) (x14 : V) (x19 : V) (x22 : V) (h : HT) : Option J := tstv x22 (bndE (dApp h 1 8 [x0, x2]) h fun x25 h =>
  ret1 x25 h)
  (bndV (rAdd x19 x14) fun x28 =>
  bndV (kCapS [x0]) fun x30 =>
  bndV (rGtr x28 x30) fun x31 =>
  tstv x31 (bndV (kSlS 1 false true [x0, x1]) fun x34 =>
  bndV (rAdd x19 x14) fun x37 =>
  bndV (rSub x37 x1) fun x39 =>
  none)
  (bndV (rAdd x19 x14) fun x59 =>
  bndV (kSlS 1 false true [x0, x59]) fun x60 =>
  bndV (rAdd x1 x14) fun x65 =>
  bndV (kSlS 1 true false [x60, x65]) fun x66 =>
  none))
noncomputable def f274 (vs : List V) (h : HT) : Option J := unc3 vs fun x0 x1 x2 =>
  bndV (kSlS 1 true false [x0, x1]) fun x12 =>
  bndV (rLenS x2) fun x14 =>
  bndV (rEql x14 (.int .i64 (.ofNat (nat_lit 0)))) fun x16 =>
  tstv x16 (ret1 x0 h)
  (bndV (rLenS x0) fun x19 =>
  bndV (rEql x1 x19) fun x22 =>
  (f274_0 x0 x1 x2 x14 x19 x22 h))

/- (*concord/core.Core).Want -/
noncomputable def l210 : List (Nat × (List V → HT → Option J)) := [(215, f215), (222, f222), (274, f274)]
noncomputable def t210 : Fns := tab l210
noncomputable def f210_0 (rc : List V → HT → Option J) (x3 : V) (x5 : V) (x30 : V) (x33 : V) (h : HT) : Option J := bndC (gsel x30 true (retV (rFa 5 x33) h) h) fun x34 h =>
  bndC (gsel x30 true (retV (rLd h x34) h) h) fun x35 h =>
  bndC (gsel x30 true (retV (kMov [x5]) h) h) fun x36 h =>
  bndC (gsel x30 true (retV (rIaS 1 x35 x36) h) h) fun x37 h =>
  bndC (gsel x30 true (retV (rLd h x37) h) h) fun x38 h =>
  bndC (gsel x30 true (retV (rNilc x38) h) h) fun x39 h =>
  bndC (gsel x30 true (retV (rFa 0 x39) h) h) fun x40 h =>
  bndC (gsel x30 true (retV (rLdN h 2 x40) h) h) fun x41 h =>
  bndC (gsel x30 true (retV (rLdN h 2 x3) h) h) fun x42 h =>
  bndC (gsel x30 true (noF [x41, x42] h) h) fun x43 h =>
  bndV (rPick x30 x43 (.bool false)) fun x44 =>
  tstv x44 (bndV (rAdd x5 (.int .i64 (.ofNat (nat_lit 1)))) fun x46 =>
  rc [x46] h)
  (some ⟨0, [x5], h⟩)
noncomputable def f210_1 (x0 : V) (x3 : V) (h : HT) : Option J := bndJ (loopF (fun rc vs h => unc1 vs fun x5 =>
  bndV (rNilc x0) fun x26 =>
  bndV (rFa 5 x26) fun x27 =>
  bndV (rLd h x27) fun x28 =>
  bndV (rLenS x28) fun x29 =>
  bndV (rLss x5 x29) fun x30 =>
  bndC (gsel x30 true (retV (kMov [x0]) h) h) fun x32 h =>
  bndC (gsel x30 true (retV (rNilc x32) h) h) fun x33 h =>
  (f210_0 rc x3 x5 x30 x33 h)) 1000000 [(.int .i64 (.ofNat (nat_lit 0)))] h)
  fun j vs h => unc1 vs fun x5 =>
  bndV (rNilc x0) fun x49 =>
  bndV (rFa 5 x49) fun x50 =>
  bndV (rLd h x50) fun x51 =>
  bndV (rLdN h 2 x3) fun x53 =>
  bndV (rBld [(.int .i64 (.ofNat (nat_lit 0))), (.int .i64 (.ofNat (nat_lit 0))), (.int .i64 (.ofNat (nat_lit 0))), (.int .i64 (.ofNat (nat_lit 0))), (.int .i64 (.ofNat (nat_lit 0)))] [(0, 2)] [x53]) fun x54 =>
  bndN (rBox x54) h fun x55 h =>
  bndN (rBsl 1 1 [(.ptr none)] [(0, 1)] [x55]) h fun x56 h =>
  bndC (f274 [x51, x5, x56] h) fun x57 h =>
  bndV (rNilc x0) fun x58 =>
  bndV (rFa 5 x58) fun x59 =>
  bndE (rSt h 1 x59 x57) h fun _ h =>
  ret1 (.bool true) h
noncomputable def f210_2 (x0 : V) (x3 : V) (x9 : V) (h : HT) : Option J := bndC (gsel x9 false (retV (kMov [x0]) h) h) fun x11 h =>
  bndC (gsel x9 false (retV (rLdN h 2 x3) h) h) fun x12 h =>
  bndC (gsel x9 false (f215 [x11, x12] h) h) fun x13 h =>
  bndC (gsel x9 false (retV (kEqN true [x13, (.ptr none)]) h) h) fun x14 h =>
  bndV (rPick x9 (.bool true) x14) fun x15 =>
  bndC (gsel x15 false (retV (kMov [x0]) h) h) fun x17 h =>
  bndC (gsel x15 false (retV (rNilc x17) h) h) fun x18 h =>
  bndC (gsel x15 false (retV (rFa 5 x18) h) h) fun x19 h =>
  bndC (gsel x15 false (retV (rLd h x19) h) h) fun x20 h =>
  bndC (gsel x15 false (retV (rLenS x20) h) h) fun x21 h =>
  bndC (gsel x15 false (retV (rGeq x21 (.int .i64 (.ofNat (nat_lit 256)))) h) h) fun x22 h =>
  bndV (rPick x15 (.bool true) x22) fun x23 =>
  tstv x23 (ret1 (.bool false) h)
  ((f210_1 x0 x3 h))
noncomputable def f210 (vs : List V) (h : HT) : Option J := unc2 vs fun x0 x1 =>
  bndN (rBox x1) h fun x3 h =>
  bndV (rLdN h 2 x3) fun x7 =>
  bndC (f222 [x0, x7] h) fun x8 h =>
  bndV (rNot x8) fun x9 =>
  (f210_2 x0 x3 x9 h)

/- slices.Clone[[]*concord/core.lead,*concord/core.lead] -/
noncomputable def l220 : List (Nat × (List V → HT → Option J)) := []
noncomputable def t220 : Fns := tab l220

noncomputable def f220 (vs : List V) (h : HT) : Option J := unc1 vs fun x0 =>
  bndV (kEqN false [x0, (.slice none 0 true 0)]) fun x4 =>
  tstv x4 (ret1 (.slice none 0 true 0) h)
  (bndN (rBsl 1 0 [] [] []) h fun x5 h =>
  bndE (dApp h 1 8 [x5, x0]) h fun x7 h =>
  ret1 x7 h)

/- slices.Clone[[]*concord/core.wish,*concord/core.wish] -/
noncomputable def l221 : List (Nat × (List V → HT → Option J)) := []
noncomputable def t221 : Fns := tab l221

noncomputable def f221 (vs : List V) (h : HT) : Option J := unc1 vs fun x0 =>
  bndV (kEqN false [x0, (.slice none 0 true 0)]) fun x4 =>
  tstv x4 (ret1 (.slice none 0 true 0) h)
  (bndN (rBsl 1 0 [] [] []) h fun x5 h =>
  bndE (dApp h 1 8 [x5, x0]) h fun x7 h =>
  ret1 x7 h)

/- (*concord/core.Core).Tick$1 -/
noncomputable def l224 : List (Nat × (List V → HT → Option J)) := []
noncomputable def t224 : Fns := tab l224

noncomputable def f224 (vs : List V) (h : HT) : Option J := unc2 vs fun x0 x1 =>
  bndV (rLd h x1) fun x5 =>
  bndV (kEqP h.heap false [x0, x5]) fun x6 =>
  ret1 x6 h

/- slices.IndexFunc[[]*concord/core.wish,*concord/core.wish] -/
noncomputable def l282 : List (Nat × (List V → HT → Option J)) := [(224, f224)]
noncomputable def t282 : Fns := tab l282
noncomputable def f282_0 (x0 : V) (x1 : V) (x7 : V) (h : HT) : Option J := bndJ (loopF (fun rc vs h => unc1 vs fun x8 =>
  bndV (rLss x8 x7) fun x9 =>
  tstv x9 (bndV (rIaS 1 x0 x8) fun x14 =>
  bndV (rLd h x14) fun x15 =>
  bndC (callvT t282 [x1, x15] h) fun x16 h =>
  tstv x16 (some ⟨1, [x8], h⟩)
  (bndV (rAdd x8 (.int .i64 (.ofNat (nat_lit 1)))) fun x18 =>
  rc [x18] h))
  (some ⟨0, [], h⟩)) 1000000 [(.int .i64 (.ofNat (nat_lit 0)))] h)
  fun j vs h => nsw j (ret1 (.int .i64 (.negSucc (nat_lit 0))) h)
  fun j => unc1 vs fun x4 =>
  ret1 x4 h
noncomputable def f282 (vs : List V) (h : HT) : Option J := unc2 vs fun x0 x1 =>
  bndV (rLenS x0) fun x7 =>
  (f282_0 x0 x1 x7 h)

/- slices.DeleteFunc[[]*concord/core.wish,*concord/core.wish] -/
noncomputable def l223 : List (Nat × (List V → HT → Option J)) := [(282, f282)]
noncomputable def t223 : Fns := tab l223
noncomputable def f223_0 (rc : List V → HT → Option J) (x0 : V) (x1 : V) (x5 : V) (x6 : V) (x19 : V) (h : HT) : Option J := tstv x19 (bndV (rIaS 1 x0 x6) fun x24 =>
  bndV (rLd h x24) fun x25 =>
  bndC (callvT t223 [x1, x25] h) fun x28 h =>
  bndV (rNot x28) fun x29 =>
  bndJ (tstv x29 (bndV (rIaS 1 x0 x5) fun x33 =>
  bndE (rSt h 1 x33 x25) h fun _ h =>
  bndV (rAdd x5 (.int .i64 (.ofNat (nat_lit 1)))) fun x35 =>
  some ⟨0, [x35], h⟩)
  (some ⟨0, [x5], h⟩))
  fun j vs h => unc1 vs fun x5 =>
  bndV (rAdd x6 (.int .i64 (.ofNat (nat_lit 1)))) fun x21 =>
  rc [x5, x21] h)
  (some ⟨0, [x5], h⟩)
noncomputable def f223_1 (x0 : V) (x1 : V) (x10 : V) (h : HT) : Option J := bndV (rEql x10 (.int .i64 (.negSucc (nat_lit 0)))) fun x12 =>
  tstv x12 (ret1 x0 h)
  (bndV (rAdd x10 (.int .i64 (.ofNat (nat_lit 1)))) fun x15 =>
  bndJ (loopF (fun rc vs h => unc2 vs fun x5 x6 =>
  bndV (rLenS x0) fun x18 =>
  bndV (rLss x6 x18) fun x19 =>
  (f223_0 rc x0 x1 x5 x6 x19 h)) 1000000 [x10, x15] h)
  fun j vs h => unc1 vs fun x5 =>
  bndV (kSlS 1 true false [x0, x5]) fun x38 =>
  bndE (dClr h [(.ptr none)] [x38]) h fun _ h =>
  bndV (kSlS 1 false true [x0, x5]) fun x41 =>
  ret1 x41 h)
noncomputable def f223 (vs : List V) (h : HT) : Option J := unc2 vs fun x0 x1 =>
  bndC (f282 [x0, x1] h) fun x10 h =>
  (f223_1 x0 x1 x10 h)

/- concord/inst.Next -/
noncomputable def l283 : List (Nat × (List V → HT → Option J)) := []
noncomputable def t283 : Fns := tab l283

noncomputable def f283 (vs : List V) (h : HT) : Option J := unc2 vs fun x0 x1 =>
  bndN (rBox x0) h fun x2 h =>
  bndN (rAlloc [(.int .i64 (.ofNat (nat_lit 0))), (.int .i64 (.ofNat (nat_lit 0)))] []) h fun x4 h =>
  bndV (rFa 0 x2) fun x5 =>
  bndV (rLd h x5) fun x6 =>
  bndV (rAdd x6 (.int .i64 (.ofNat (nat_lit 1)))) fun x7 =>
  bndV (rBld [(.int .i64 (.ofNat (nat_lit 0))), (.int .i64 (.ofNat (nat_lit 0)))] [(0, 1), (1, 1)] [x7, x1]) fun x9 =>
  bndE (rSt h 2 x4 x9) h fun _ h =>
  bndV (qLd h (some 2) [x4]) fun x900000 =>
  ret1 x900000 h

/- (*concord/core.Core).Recover -/
noncomputable def l225 : List (Nat × (List V → HT → Option J)) := [(127, f127), (128, f128), (134, f134), (205, f205), (209, f209), (215, f215), (222, f222), (283, f283)]
noncomputable def t225 : Fns := tab l225
noncomputable def f225_0 (x0 : V) (x3 : V) (x5 : V) (x72 : V) (h : HT) : Option J := tstv x72 (ret1 (.bool false) h)
  (bndV (rLdN h 2 x3) fun x74 =>
  bndV (rFa 1 x5) fun x75 =>
  bndV (rLdN h 2 x75) fun x76 =>
  bndV (rNilc x0) fun x78 =>
  bndV (rFa 1 x78) fun x79 =>
  bndV (rLd h x79) fun x80 =>
  bndV (rLdN h 21 x5) fun x81 =>
  bndV (rBld [(.int .i64 (.ofNat (nat_lit 0))), (.int .i64 (.ofNat (nat_lit 0))), (.int .i64 (.ofNat (nat_lit 0))), (.int .i64 (.ofNat (nat_lit 0))), (.int .i64 (.ofNat (nat_lit 0))), (.int .i64 (.ofNat (nat_lit 0))), (.int .i64 (.ofNat (nat_lit 0))), (.int .i64 (.ofNat (nat_lit 0))), (.int .i64 (.ofNat (nat_lit 0))), (.str (sb [])), (.str (sb [])), (.str (sb [])), (.str (sb [])), (.int .i64 (.ofNat (nat_lit 0))), (.int .i64 (.ofNat (nat_lit 0))), (.int .i64 (.ofNat (nat_lit 0))), (.int .i64 (.ofNat (nat_lit 0))), (.int .i64 (.ofNat (nat_lit 0))), (.int .i64 (.ofNat (nat_lit 0))), (.int .i64 (.ofNat (nat_lit 0))), (.int .i64 (.ofNat (nat_lit 0))), (.bool false)] [(0, 1), (1, 21)] [x80, x81]) fun x82 =>
  bndN (rBsl 22 1 [(.int .i64 (.ofNat (nat_lit 0))), (.int .i64 (.ofNat (nat_lit 0))), (.int .i64 (.ofNat (nat_lit 0))), (.int .i64 (.ofNat (nat_lit 0))), (.int .i64 (.ofNat (nat_lit 0))), (.int .i64 (.ofNat (nat_lit 0))), (.int .i64 (.ofNat (nat_lit 0))), (.int .i64 (.ofNat (nat_lit 0))), (.int .i64 (.ofNat (nat_lit 0))), (.str (sb [])), (.str (sb [])), (.str (sb [])), (.str (sb [])), (.int .i64 (.ofNat (nat_lit 0))), (.int .i64 (.ofNat (nat_lit 0))), (.int .i64 (.ofNat (nat_lit 0))), (.int .i64 (.ofNat (nat_lit 0))), (.int .i64 (.ofNat (nat_lit 0))), (.int .i64 (.ofNat (nat_lit 0))), (.int .i64 (.ofNat (nat_lit 0))), (.int .i64 (.ofNat (nat_lit 0))), (.bool false)] [(0, 22)] [x82]) h fun x83 h =>
  bndV (rBld [(.int .i64 (.ofNat (nat_lit 0))), (.int .i64 (.ofNat (nat_lit 0))), (.int .i64 (.ofNat (nat_lit 0))), (.int .i64 (.ofNat (nat_lit 0))), (.int .i64 (.ofNat (nat_lit 0))), (.bool false), (.int .i64 (.ofNat (nat_lit 0))), (.int .i64 (.ofNat (nat_lit 0))), (.int .i64 (.ofNat (nat_lit 0))), (.str (sb [])), (.str (sb [])), (.str (sb [])), (.str (sb [])), (.int .i64 (.ofNat (nat_lit 0))), (.int .i64 (.ofNat (nat_lit 0))), (.int .i64 (.ofNat (nat_lit 0))), (.int .i64 (.ofNat (nat_lit 0))), (.int .i64 (.ofNat (nat_lit 0))), (.int .i64 (.ofNat (nat_lit 0))), (.int .i64 (.ofNat (nat_lit 0))), (.int .i64 (.ofNat (nat_lit 0))), (.int .i64 (.ofNat (nat_lit 0))), (.int .i64 (.ofNat (nat_lit 0))), (.int .i64 (.ofNat (nat_lit 0))), (.int .i64 (.ofNat (nat_lit 0))), (.int .i64 (.ofNat (nat_lit 0))), (.int .i64 (.ofNat (nat_lit 0))), (.int .i64 (.ofNat (nat_lit 0))), (.slice none 0 true 0), (.slice none 0 true 0), (.int .i64 (.ofNat (nat_lit 0))), (.int .i64 (.ofNat (nat_lit 0)))] [(0, 2), (2, 1), (3, 2), (29, 1)] [x74, (.int .i64 (.ofNat (nat_lit 2))), x76, x83]) fun x84 =>
  bndN (rBox x84) h fun x85 h =>
  bndC (f128 [x0, x85] h) fun x86 h =>
  ret1 (.bool true) h)
noncomputable def f225_1 (x0 : V) (x3 : V) (x5 : V) (x55 : V) (x58 : V) (h : HT) : Option J := bndV (rLd h x58) fun x59 =>
  bndC (f283 [x55, x59] h) fun x60 h =>
  bndV (rFa 1 x5) fun x61 =>
  bndE (rSt h 2 x61 x60) h fun _ h =>
  bndV (rFa 1 x5) fun x62 =>
  bndV (rLdN h 2 x62) fun x63 =>
  bndC (f134 [x63] h) fun x64 h =>
  bndV (rNot x64) fun x65 =>
  bndC (gsel x65 false (retV (kMov [x0]) h) h) fun x67 h =>
  bndC (gsel x65 false (retV (rLdN h 2 x3) h) h) fun x68 h =>
  bndC (gsel x65 false (retV (rLdN h 21 x5) h) h) fun x69 h =>
  bndC (gsel x65 false (f127 [x67, x68, x69] h) h) fun x70 h =>
  bndC (gsel x65 false (retV (rNot x70) h) h) fun x71 h =>
  bndV (rPick x65 (.bool true) x71) fun x72 =>
  (f225_0 x0 x3 x5 x72 h)
noncomputable def f225_2 (x0 : V) (x3 : V) (x5 : V) (x7 : V) (x40 : V) (x42 : V) (x44 : V) (x47 : V) (h : HT) : Option J := bndC (gsel x42 true (retV (rLdN h 2 x47) h) h) fun x48 h =>
  bndC (gsel x42 true (f209 [x44, x48] h) h) fun x49 h =>
  bndV (rPick x42 x49 (.bool false)) fun x50 =>
  bndJ (tstv x50 (bndV (rNilc x40) fun x52 =>
  bndV (rFa 3 x52) fun x53 =>
  bndV (rLdN h 2 x53) fun x54 =>
  bndE (rSt h 2 x7 x54) h fun _ h =>
  some ⟨0, [], h⟩)
  (some ⟨0, [], h⟩))
  fun j vs h => bndV (rLdN h 2 x7) fun x55 =>
  bndV (rNilc x0) fun x57 =>
  bndV (rFa 1 x57) fun x58 =>
  (f225_1 x0 x3 x5 x55 x58 h)
noncomputable def f225_3 (x0 : V) (x3 : V) (x5 : V) (x33 : V) (h : HT) : Option J := bndV (rExt 0 x33) fun x34 =>
  bndV (rExt 1 x33) fun x35 =>
  bndE (rSt h 21 x5 x34) h fun _ h =>
  bndV (rFa 1 x5) fun x36 =>
  bndV (rLdN h 2 x36) fun x37 =>
  bndN (rAlloc [(.int .i64 (.ofNat (nat_lit 0))), (.int .i64 (.ofNat (nat_lit 0)))] []) h fun x7 h =>
  bndE (rSt h 2 x7 x37) h fun _ h =>
  bndV (rLdN h 2 x3) fun x39 =>
  bndC (f215 [x0, x39] h) fun x40 h =>
  bndV (kEqN true [x40, (.ptr none)]) fun x42 =>
  bndC (gsel x42 true (retV (rLdN h 2 x7) h) h) fun x44 h =>
  bndC (gsel x42 true (retV (kMov [x40]) h) h) fun x45 h =>
  bndC (gsel x42 true (retV (rNilc x45) h) h) fun x46 h =>
  bndC (gsel x42 true (retV (rFa 3 x46) h) h) fun x47 h =>
  (f225_2 x0 x3 x5 x7 x40 x42 x44 x47 h)
noncomputable def f225_4 (x0 : V) (x3 : V) (x12 : V) (x20 : V) (h : HT) : Option J := bndC (gsel x20 true (retV (kMov [x0]) h) h) fun x21 h =>
  bndC (gsel x20 true (retV (rLdN h 2 x3) h) h) fun x22 h =>
  bndC (gsel x20 true (noF [x21, x22] h) h) fun x23 h =>
  bndC (gsel x20 true (retV (kEqN false [x23, (.ptr none)]) h) h) fun x24 h =>
  bndC (gsel x12 false (retV (rPick x20 x24 (.bool false)) h) h) fun x25 h =>
  bndV (rPick x12 (.bool true) x25) fun x26 =>
  tstv x26 (ret1 (.bool false) h)
  (bndV (rNilc x0) fun x29 =>
  bndV (rFa 2 x29) fun x30 =>
  bndV (rLd h x30) fun x31 =>
  bndV (rLdN h 2 x3) fun x32 =>
  bndN (rAlloc [(.int .i64 (.ofNat (nat_lit 0))), (.int .i64 (.ofNat (nat_lit 0))), (.int .i64 (.ofNat (nat_lit 0))), (.int .i64 (.ofNat (nat_lit 0))), (.int .i64 (.ofNat (nat_lit 0))), (.int .i64 (.ofNat (nat_lit 0))), (.int .i64 (.ofNat (nat_lit 0))), (.int .i64 (.ofNat (nat_lit 0))), (.str (sb [])), (.str (sb [])), (.str (sb [])), (.str (sb [])), (.int .i64 (.ofNat (nat_lit 0))), (.int .i64 (.ofNat (nat_lit 0))), (.int .i64 (.ofNat (nat_lit 0))), (.int .i64 (.ofNat (nat_lit 0))), (.int .i64 (.ofNat (nat_lit 0))), (.int .i64 (.ofNat (nat_lit 0))), (.int .i64 (.ofNat (nat_lit 0))), (.int .i64 (.ofNat (nat_lit 0))), (.bool false)] []) h fun x5 h =>
  bndC (f205 [x31, x32] h) fun x33 h =>
  (f225_3 x0 x3 x5 x33 h))
noncomputable def f225 (vs : List V) (h : HT) : Option J := unc2 vs fun x0 x1 =>
  bndN (rBox x1) h fun x3 h =>
  bndV (rLdN h 2 x3) fun x10 =>
  bndC (f222 [x0, x10] h) fun x11 h =>
  bndV (rNot x11) fun x12 =>
  bndC (gsel x12 false (retV (kMov [x0]) h) h) fun x14 h =>
  bndC (gsel x12 false (retV (rNilc x14) h) h) fun x15 h =>
  bndC (gsel x12 false (retV (rFa 4 x15) h) h) fun x16 h =>
  bndC (gsel x12 false (retV (rLd h x16) h) h) fun x17 h =>
  bndC (gsel x12 false (retV (rLenS x17) h) h) fun x18 h =>
  bndC (gsel x12 false (retV (rGeq x18 (.int .i64 (.ofNat (nat_lit 256)))) h) h) fun x19 h =>
  bndC (gsel x12 false (retV (kMov [x19]) h) h) fun x20 h =>
  (f225_4 x0 x3 x12 x20 h)

/- (*concord/core.Core).Tick -/
noncomputable def l150 : List (Nat × (List V → HT → Option J)) := [(204, f204), (205, f205), (210, f210), (212, f212), (220, f220), (221, f221), (222, f222), (223, f223), (225, f225)]
noncomputable def t150 : Fns := tab l150
noncomputable def f150_0 (x0 : V) (x20 : V) (x33 : V) (x39 : V) (h : HT) : Option J := bndC (gsel x33 false (retV (kMov [x39]) h) h) fun x40 h =>
  bndC (gsel x40 true (retV (kMov [x0]) h) h) fun x41 h =>
  bndC (gsel x40 true (retV (kMov [x20]) h) h) fun x42 h =>
  bndC (gsel x40 true (noF [x41, x42, (.bool true)] h) h) fun x43 h =>
  bndC (gsel x33 false (retV (rPick x40 x43 (.bool false)) h) h) fun x44 h =>
  bndV (rPick x33 (.bool true) x44) fun x45 =>
  tstv x45 (some ⟨0, [], h⟩)
  (bndV (rNilc x20) fun x50 =>
  bndV (rFa 21 x50) fun x51 =>
  bndV (rLdN h 7 x51) fun x52 =>
  bndC (noF [x20] h) fun x48 h =>
  chk1 (sameE (rLdN h 7 x51) x52) (bndC (noF [x0, x48, x52] h) fun x53 h =>
  some ⟨0, [], h⟩))
noncomputable def f150_1 (x0 : V) (x20 : V) (x24 : V) (h : HT) : Option J := bndV (rAdd x24 (.int .i64 (.ofNat (nat_lit 1)))) fun x25 =>
  bndV (rNilc x20) fun x26 =>
  bndV (rFa 31 x26) fun x27 =>
  bndE (rSt h 1 x27 x25) h fun _ h =>
  bndV (rNilc x20) fun x29 =>
  bndV (rFa 31 x29) fun x30 =>
  bndV (rLd h x30) fun x31 =>
  bndV (qBin .rem [x31, (.int .i64 (.ofNat (nat_lit 4)))]) fun x32 =>
  bndV (rNeq x32 (.int .i64 (.ofNat (nat_lit 0)))) fun x33 =>
  bndC (gsel x33 false (retV (kMov [x20]) h) h) fun x35 h =>
  bndC (gsel x33 false (retV (rNilc x35) h) h) fun x36 h =>
  bndC (gsel x33 false (retV (rFa 2 x36) h) h) fun x37 h =>
  bndC (gsel x33 false (retV (rLd h x37) h) h) fun x38 h =>
  bndC (gsel x33 false (retV (rEql x38 (.int .i64 (.ofNat (nat_lit 0)))) h) h) fun x39 h =>
  (f150_0 x0 x20 x33 x39 h)
noncomputable def f150_2 (rc : List V → HT → Option J) (x0 : V) (x5 : V) (x61 : V) (x74 : V) (h : HT) : Option J := bndV (rLd h x74) fun x75 =>
  bndV (rNeq x75 (.int .i64 (.ofNat (nat_lit 3)))) fun x76 =>
  bndC (gsel x76 true (retV (kMov [x0]) h) h) fun x78 h =>
  bndC (gsel x76 true (retV (rLdN h 2 x5) h) h) fun x79 h =>
  bndC (gsel x76 true (f212 [x78, x79] h) h) fun x80 h =>
  bndC (gsel x76 true (retV (kEqN false [x80, (.ptr none)]) h) h) fun x81 h =>
  bndV (rPick x76 x81 (.bool false)) fun x82 =>
  bndJ (tstv x82 (bndV (rLdN h 2 x5) fun x84 =>
  bndC (f210 [x0, x84] h) fun x85 h =>
  some ⟨0, [], h⟩)
  (some ⟨0, [], h⟩))
  fun j vs h => bndV (rAdd x61 (.int .i64 (.ofNat (nat_lit 1)))) fun x86 =>
  rc [x86] h
noncomputable def f150_3 (rc : List V → HT → Option J) (x0 : V) (x59 : V) (x61 : V) (h : HT) : Option J := bndV (rIaS 2 x59 x61) fun x63 =>
  bndV (rLdN h 2 x63) fun x64 =>
  bndN (rAlloc [(.int .i64 (.ofNat (nat_lit 0))), (.int .i64 (.ofNat (nat_lit 0)))] []) h fun x5 h =>
  bndE (rSt h 2 x5 x64) h fun _ h =>
  bndV (rNilc x0) fun x67 =>
  bndV (rFa 2 x67) fun x68 =>
  bndV (rLd h x68) fun x69 =>
  bndV (rLdN h 2 x5) fun x70 =>
  bndN (rAlloc [(.int .i64 (.ofNat (nat_lit 0))), (.int .i64 (.ofNat (nat_lit 0))), (.int .i64 (.ofNat (nat_lit 0))), (.int .i64 (.ofNat (nat_lit 0))), (.int .i64 (.ofNat (nat_lit 0))), (.int .i64 (.ofNat (nat_lit 0))), (.int .i64 (.ofNat (nat_lit 0))), (.int .i64 (.ofNat (nat_lit 0))), (.str (sb [])), (.str (sb [])), (.str (sb [])), (.str (sb [])), (.int .i64 (.ofNat (nat_lit 0))), (.int .i64 (.ofNat (nat_lit 0))), (.int .i64 (.ofNat (nat_lit 0))), (.int .i64 (.ofNat (nat_lit 0))), (.int .i64 (.ofNat (nat_lit 0))), (.int .i64 (.ofNat (nat_lit 0))), (.int .i64 (.ofNat (nat_lit 0))), (.int .i64 (.ofNat (nat_lit 0))), (.bool false)] []) h fun x6 h =>
  bndC (f205 [x69, x70] h) fun x71 h =>
  bndV (rExt 0 x71) fun x72 =>
  bndV (rExt 1 x71) fun x73 =>
  bndE (rSt h 21 x6 x72) h fun _ h =>
  bndV (rFa 0 x6) fun x74 =>
  (f150_2 rc x0 x5 x61 x74 h)
noncomputable def f150_4 (x9 : V) (x154 : V) (x156 : V) (h : HT) : Option J := bndC (gsel x154 true (retV (rLd h x9) h) h) fun x157 h =>
  bndC (gsel x154 true (retV (rNilc x157) h) h) fun x158 h =>
  bndC (gsel x154 true (retV (rFa 0 x158) h) h) fun x159 h =>
  bndC (gsel x154 true (retV (rLdN h 2 x159) h) h) fun x160 h =>
  bndC (gsel x154 true (f225 [x156, x160] h) h) fun x161 h =>
  bndV (rPick x154 x161 (.bool false)) fun x162 =>
  bndJ (tstv x162 (bndV (rLd h x9) fun x163 =>
  bndV (rNilc x163) fun x164 =>
  bndV (rFa 2 x164) fun x165 =>
  bndE (rSt h 1 x165 (.int .i64 (.ofNat (nat_lit 0)))) h fun _ h =>
  some ⟨0, [], h⟩)
  (some ⟨0, [], h⟩))
  fun j vs h => some ⟨0, [], h⟩
noncomputable def f150_5 (x0 : V) (x9 : V) (x136 : V) (x139 : V) (h : HT) : Option J := bndV (rLd h x139) fun x140 =>
  bndV (rAdd x136 x140) fun x141 =>
  bndV (rNilc x0) fun x143 =>
  bndV (rFa 0 x143) fun x144 =>
  bndV (rLd h x144) fun x145 =>
  bndV (qBin .rem [x141, x145]) fun x146 =>
  bndV (rLd h x9) fun x147 =>
  bndV (rNilc x147) fun x148 =>
  bndV (rFa 2 x148) fun x149 =>
  bndV (rLd h x149) fun x150 =>
  bndV (qBin .mul [(.int .i64 (.ofNat (nat_lit 6))), x146]) fun x152 =>
  bndV (rAdd (.int .i64 (.ofNat (nat_lit 12))) x152) fun x153 =>
  bndV (rGeq x150 x153) fun x154 =>
  bndC (gsel x154 true (retV (kMov [x0]) h) h) fun x156 h =>
  (f150_4 x9 x154 x156 h)
noncomputable def f150_6 (x0 : V) (x9 : V) (x120 : V) (x124 : V) (h : HT) : Option J := bndV (rNilc x120) fun x125 =>
  bndV (rFa 2 x125) fun x126 =>
  bndE (rSt h 1 x126 x124) h fun _ h =>
  bndV (rNilc x0) fun x128 =>
  bndV (rFa 1 x128) fun x129 =>
  bndV (rLd h x129) fun x130 =>
  bndV (rLd h x9) fun x131 =>
  bndV (rNilc x131) fun x132 =>
  bndV (rFa 0 x132) fun x133 =>
  bndV (rFa 0 x133) fun x134 =>
  bndV (rLd h x134) fun x135 =>
  bndV (rSub x130 x135) fun x136 =>
  bndV (rNilc x0) fun x138 =>
  bndV (rFa 0 x138) fun x139 =>
  (f150_5 x0 x9 x136 x139 h)
noncomputable def f150_7 (x0 : V) (x9 : V) (x103 : V) (h : HT) : Option J := tstv x103 (bndV (rNilc x0) fun x106 =>
  bndV (rFa 5 x106) fun x107 =>
  bndV (rLd h x107) fun x108 =>
  bndV (kMkF 224 [x9]) fun x109 =>
  bndC (f223 [x108, x109] h) fun x110 h =>
  bndV (rNilc x0) fun x111 =>
  bndV (rFa 5 x111) fun x112 =>
  bndE (rSt h 1 x112 x110) h fun _ h =>
  some ⟨0, [], h⟩)
  (bndV (rLd h x9) fun x114 =>
  bndV (rNilc x114) fun x115 =>
  bndV (rFa 0 x115) fun x116 =>
  bndV (rLdN h 2 x116) fun x117 =>
  bndC (f212 [x0, x117] h) fun x118 h =>
  bndV (kEqN true [x118, (.ptr none)]) fun x119 =>
  tstv x119 (some ⟨0, [], h⟩)
  (bndV (rLd h x9) fun x120 =>
  bndV (rNilc x120) fun x121 =>
  bndV (rFa 2 x121) fun x122 =>
  bndV (rLd h x122) fun x123 =>
  bndV (rAdd x123 (.int .i64 (.ofNat (nat_lit 1)))) fun x124 =>
  (f150_6 x0 x9 x120 x124 h)))
noncomputable def f150_8 (rc : List V → HT → Option J) (x0 : V) (x91 : V) (x93 : V) (x94 : V) (h : HT) : Option J := tstv x94 (bndJ (bndV (rIaS 1 x91 x93) fun x95 =>
  bndV (rLd h x95) fun x96 =>
  bndN (rAlloc [(.ptr none)] []) h fun x9 h =>
  bndE (rSt h 1 x9 x96) h fun _ h =>
  bndV (rLd h x9) fun x98 =>
  bndV (rNilc x98) fun x99 =>
  bndV (rFa 0 x99) fun x100 =>
  bndV (rLdN h 2 x100) fun x101 =>
  bndC (f222 [x0, x101] h) fun x102 h =>
  bndV (rNot x102) fun x103 =>
  (f150_7 x0 x9 x103 h))
  fun j vs h => bndV (rAdd x93 (.int .i64 (.ofNat (nat_lit 1)))) fun x166 =>
  rc [x166] h)
  (some ⟨0, [], h⟩)
noncomputable def f150_9 (x0 : V) (x59 : V) (x60 : V) (h : HT) : Option J := bndJ (loopF (fun rc vs h => unc1 vs fun x61 =>
  bndV (rLss x61 x60) fun x62 =>
  tstv x62 ((f150_3 rc x0 x59 x61 h))
  (some ⟨0, [], h⟩)) 1000000 [(.int .i64 (.ofNat (nat_lit 0)))] h)
  fun j vs h => bndV (rNilc x0) fun x88 =>
  bndV (rFa 5 x88) fun x89 =>
  bndV (rLd h x89) fun x90 =>
  bndC (f221 [x90] h) fun x91 h =>
  bndV (rLenS x91) fun x92 =>
  bndJ (loopF (fun rc vs h => unc1 vs fun x93 =>
  bndV (rLss x93 x92) fun x94 =>
  (f150_8 rc x0 x91 x93 x94 h)) 1000000 [(.int .i64 (.ofNat (nat_lit 0)))] h)
  fun j vs h => ret1 (.tuple []) h
noncomputable def f150_10 (x0 : V) (x15 : V) (x16 : V) (h : HT) : Option J := bndJ (loopF (fun rc vs h => unc1 vs fun x17 =>
  bndV (rLss x17 x16) fun x18 =>
  tstv x18 (bndJ (bndV (rIaS 1 x15 x17) fun x19 =>
  bndV (rLd h x19) fun x20 =>
  bndV (rNilc x20) fun x22 =>
  bndV (rFa 31 x22) fun x23 =>
  bndV (rLd h x23) fun x24 =>
  (f150_1 x0 x20 x24 h))
  fun j vs h => bndV (rAdd x17 (.int .i64 (.ofNat (nat_lit 1)))) fun x54 =>
  rc [x54] h)
  (some ⟨0, [], h⟩)) 1000000 [(.int .i64 (.ofNat (nat_lit 0)))] h)
  fun j vs h => bndV (rNilc x0) fun x56 =>
  bndV (rFa 2 x56) fun x57 =>
  bndV (rLd h x57) fun x58 =>
  bndC (f204 [x58] h) fun x59 h =>
  bndV (rLenS x59) fun x60 =>
  (f150_9 x0 x59 x60 h)
noncomputable def f150 (vs : List V) (h : HT) : Option J := unc1 vs fun x0 =>
  bndV (rNilc x0) fun x12 =>
  bndV (rFa 4 x12) fun x13 =>
  bndV (rLd h x13) fun x14 =>
  bndC (f220 [x14] h) fun x15 h =>
  bndV (rLenS x15) fun x16 =>
  (f150_10 x0 x15 x16 h)

/- (*concord/node.Node).Tick -/
noncomputable def l65 : List (Nat × (List V → HT → Option J)) := [(45, f45), (150, f150)]
noncomputable def t65 : Fns := tab l65
noncomputable def f65_0 (x0 : V) (x2 : V) (x45 : V) (x49 : V) (x53 : V) (h : HT) : Option J := bndV (rLdN h 7 x53) fun x54 =>
  bndV (rBld [(.int .i64 (.ofNat (nat_lit 0))), (.int .i64 (.ofNat (nat_lit 0))), (.int .i64 (.ofNat (nat_lit 0))), (.int .i64 (.ofNat (nat_lit 0))), (.int .i64 (.ofNat (nat_lit 0))), (.int .i64 (.ofNat (nat_lit 0))), (.int .i64 (.ofNat (nat_lit 0))), (.int .i64 (.ofNat (nat_lit 0))), (.int .i64 (.ofNat (nat_lit 0))), (.int .i64 (.ofNat (nat_lit 0))), (.str (sb [])), (.str (sb [])), (.str (sb [])), (.str (sb [])), (.int .i64 (.ofNat (nat_lit 0))), (.int .i64 (.ofNat (nat_lit 0))), (.int .i64 (.ofNat (nat_lit 0))), (.int .i64 (.ofNat (nat_lit 0))), (.int .i64 (.ofNat (nat_lit 0))), (.int .i64 (.ofNat (nat_lit 0))), (.int .i64 (.ofNat (nat_lit 0))), (.int .i64 (.ofNat (nat_lit 0))), (.int .i64 (.ofNat (nat_lit 0))), (.int .i64 (.ofNat (nat_lit 0))), (.int .i64 (.ofNat (nat_lit 0))), (.int .i64 (.ofNat (nat_lit 0))), (.int .i64 (.ofNat (nat_lit 0))), (.int .i64 (.ofNat (nat_lit 0))), (.int .i64 (.ofNat (nat_lit 0))), (.int .i64 (.ofNat (nat_lit 0))), (.str (sb [])), (.str (sb [])), (.str (sb [])), (.str (sb [])), (.int .i64 (.ofNat (nat_lit 0))), (.int .i64 (.ofNat (nat_lit 0))), (.int .i64 (.ofNat (nat_lit 0))), (.int .i64 (.ofNat (nat_lit 0))), (.int .i64 (.ofNat (nat_lit 0))), (.int .i64 (.ofNat (nat_lit 0))), (.int .i64 (.ofNat (nat_lit 0))), (.int .i64 (.ofNat (nat_lit 0))), (.bool false), (.int .i64 (.ofNat (nat_lit 0))), (.int .i64 (.ofNat (nat_lit 0))), (.int .i64 (.ofNat (nat_lit 0))), (.int .i64 (.ofNat (nat_lit 0))), (.int .i64 (.ofNat (nat_lit 0))), (.int .i64 (.ofNat (nat_lit 0))), (.int .i64 (.ofNat (nat_lit 0))), (.str (sb []))] [(0, 1), (1, 1), (2, 1), (43, 7)] [(.int .i64 (.ofNat (nat_lit 9))), x49, x2, x54]) fun x55 =>
  bndV (rNilc x0) fun x57 =>
  bndV (rFa 1 x57) fun x58 =>
  bndV (rLd h x58) fun x59 =>
  bndV (rNilc x0) fun x62 =>
  bndV (rFa 55 x62) fun x63 =>
  bndV (rLdN h 7 x63) fun x64 =>
  bndV (rBld [(.int .i64 (.ofNat (nat_lit 0))), (.int .i64 (.ofNat (nat_lit 0))), (.int .i64 (.ofNat (nat_lit 0))), (.int .i64 (.ofNat (nat_lit 0))), (.int .i64 (.ofNat (nat_lit 0))), (.int .i64 (.ofNat (nat_lit 0))), (.int .i64 (.ofNat (nat_lit 0))), (.int .i64 (.ofNat (nat_lit 0))), (.int .i64 (.ofNat (nat_lit 0))), (.int .i64 (.ofNat (nat_lit 0))), (.str (sb [])), (.str (sb [])), (.str (sb [])), (.str (sb [])), (.int .i64 (.ofNat (nat_lit 0))), (.int .i64 (.ofNat (nat_lit 0))), (.int .i64 (.ofNat (nat_lit 0))), (.int .i64 (.ofNat (nat_lit 0))), (.int .i64 (.ofNat (nat_lit 0))), (.int .i64 (.ofNat (nat_lit 0))), (.int .i64 (.ofNat (nat_lit 0))), (.int .i64 (.ofNat (nat_lit 0))), (.int .i64 (.ofNat (nat_lit 0))), (.int .i64 (.ofNat (nat_lit 0))), (.int .i64 (.ofNat (nat_lit 0))), (.int .i64 (.ofNat (nat_lit 0))), (.int .i64 (.ofNat (nat_lit 0))), (.int .i64 (.ofNat (nat_lit 0))), (.int .i64 (.ofNat (nat_lit 0))), (.int .i64 (.ofNat (nat_lit 0))), (.str (sb [])), (.str (sb [])), (.str (sb [])), (.str (sb [])), (.int .i64 (.ofNat (nat_lit 0))), (.int .i64 (.ofNat (nat_lit 0))), (.int .i64 (.ofNat (nat_lit 0))), (.int .i64 (.ofNat (nat_lit 0))), (.int .i64 (.ofNat (nat_lit 0))), (.int .i64 (.ofNat (nat_lit 0))), (.int .i64 (.ofNat (nat_lit 0))), (.int .i64 (.ofNat (nat_lit 0))), (.bool false), (.int .i64 (.ofNat (nat_lit 0))), (.int .i64 (.ofNat (nat_lit 0))), (.int .i64 (.ofNat (nat_lit 0))), (.int .i64 (.ofNat (nat_lit 0))), (.int .i64 (.ofNat (nat_lit 0))), (.int .i64 (.ofNat (nat_lit 0))), (.int .i64 (.ofNat (nat_lit 0))), (.str (sb []))] [(0, 1), (1, 1), (2, 1), (43, 7)] [(.int .i64 (.ofNat (nat_lit 11))), x59, x2, x64]) fun x65 =>
  bndN (rBsl 51 2 [(.int .i64 (.ofNat (nat_lit 0))), (.int .i64 (.ofNat (nat_lit 0))), (.int .i64 (.ofNat (nat_lit 0))), (.int .i64 (.ofNat (nat_lit 0))), (.int .i64 (.ofNat (nat_lit 0))), (.int .i64 (.ofNat (nat_lit 0))), (.int .i64 (.ofNat (nat_lit 0))), (.int .i64 (.ofNat (nat_lit 0))), (.int .i64 (.ofNat (nat_lit 0))), (.int .i64 (.ofNat (nat_lit 0))), (.str (sb [])), (.str (sb [])), (.str (sb [])), (.str (sb [])), (.int .i64 (.ofNat (nat_lit 0))), (.int .i64 (.ofNat (nat_lit 0))), (.int .i64 (.ofNat (nat_lit 0))), (.int .i64 (.ofNat (nat_lit 0))), (.int .i64 (.ofNat (nat_lit 0))), (.int .i64 (.ofNat (nat_lit 0))), (.int .i64 (.ofNat (nat_lit 0))), (.int .i64 (.ofNat (nat_lit 0))), (.int .i64 (.ofNat (nat_lit 0))), (.int .i64 (.ofNat (nat_lit 0))), (.int .i64 (.ofNat (nat_lit 0))), (.int .i64 (.ofNat (nat_lit 0))), (.int .i64 (.ofNat (nat_lit 0))), (.int .i64 (.ofNat (nat_lit 0))), (.int .i64 (.ofNat (nat_lit 0))), (.int .i64 (.ofNat (nat_lit 0))), (.str (sb [])), (.str (sb [])), (.str (sb [])), (.str (sb [])), (.int .i64 (.ofNat (nat_lit 0))), (.int .i64 (.ofNat (nat_lit 0))), (.int .i64 (.ofNat (nat_lit 0))), (.int .i64 (.ofNat (nat_lit 0))), (.int .i64 (.ofNat (nat_lit 0))), (.int .i64 (.ofNat (nat_lit 0))), (.int .i64 (.ofNat (nat_lit 0))), (.int .i64 (.ofNat (nat_lit 0))), (.bool false), (.int .i64 (.ofNat (nat_lit 0))), (.int .i64 (.ofNat (nat_lit 0))), (.int .i64 (.ofNat (nat_lit 0))), (.int .i64 (.ofNat (nat_lit 0))), (.int .i64 (.ofNat (nat_lit 0))), (.int .i64 (.ofNat (nat_lit 0))), (.int .i64 (.ofNat (nat_lit 0))), (.str (sb [])), (.int .i64 (.ofNat (nat_lit 0))), (.int .i64 (.ofNat (nat_lit 0))), (.int .i64 (.ofNat (nat_lit 0))), (.int .i64 (.ofNat (nat_lit 0))), (.int .i64 (.ofNat (nat_lit 0))), (.int .i64 (.ofNat (nat_lit 0))), (.int .i64 (.ofNat (nat_lit 0))), (.int .i64 (.ofNat (nat_lit 0))), (.int .i64 (.ofNat (nat_lit 0))), (.int .i64 (.ofNat (nat_lit 0))), (.str (sb [])), (.str (sb [])), (.str (sb [])), (.str (sb [])), (.int .i64 (.ofNat (nat_lit 0))), (.int .i64 (.ofNat (nat_lit 0))), (.int .i64 (.ofNat (nat_lit 0))), (.int .i64 (.ofNat (nat_lit 0))), (.int .i64 (.ofNat (nat_lit 0))), (.int .i64 (.ofNat (nat_lit 0))), (.int .i64 (.ofNat (nat_lit 0))), (.int .i64 (.ofNat (nat_lit 0))), (.int .i64 (.ofNat (nat_lit 0))), (.int .i64 (.ofNat (nat_lit 0))), (.int .i64 (.ofNat (nat_lit 0))), (.int .i64 (.ofNat (nat_lit 0))), (.int .i64 (.ofNat (nat_lit 0))), (.int .i64 (.ofNat (nat_lit 0))), (.int .i64 (.ofNat (nat_lit 0))), (.int .i64 (.ofNat (nat_lit 0))), (.str (sb [])), (.str (sb [])), (.str (sb [])), (.str (sb [])), (.int .i64 (.ofNat (nat_lit 0))), (.int .i64 (.ofNat (nat_lit 0))), (.int .i64 (.ofNat (nat_lit 0))), (.int .i64 (.ofNat (nat_lit 0))), (.int .i64 (.ofNat (nat_lit 0))), (.int .i64 (.ofNat (nat_lit 0))), (.int .i64 (.ofNat (nat_lit 0))), (.int .i64 (.ofNat (nat_lit 0))), (.bool false), (.int .i64 (.ofNat (nat_lit 0))), (.int .i64 (.ofNat (nat_lit 0))), (.int .i64 (.ofNat (nat_lit 0))), (.int .i64 (.ofNat (nat_lit 0))), (.int .i64 (.ofNat (nat_lit 0))), (.int .i64 (.ofNat (nat_lit 0))), (.int .i64 (.ofNat (nat_lit 0))), (.str (sb []))] [(0, 51), (51, 51)] [x55, x65]) h fun x66 h =>
  bndE (dApp h 51 480 [x45, x66]) h fun x67 h =>
  bndV (rNilc x0) fun x68 =>
  bndV (rFa 72 x68) fun x69 =>
  bndE (rSt h 1 x69 x67) h fun _ h =>
  some ⟨0, [], h⟩
noncomputable def f65_1 (rc : List V → HT → Option J) (x0 : V) (x2 : V) (x39 : V) (h : HT) : Option J := bndV (rNeq x2 x39) fun x40 =>
  bndJ (tstv x40 (bndV (rNilc x0) fun x43 =>
  bndV (rFa 72 x43) fun x44 =>
  bndV (rLd h x44) fun x45 =>
  bndV (rNilc x0) fun x47 =>
  bndV (rFa 1 x47) fun x48 =>
  bndV (rLd h x48) fun x49 =>
  bndV (rNilc x0) fun x52 =>
  bndV (rFa 62 x52) fun x53 =>
  (f65_0 x0 x2 x45 x49 x53 h))
  (some ⟨0, [], h⟩))
  fun j vs h => bndV (rAdd x2 (.int .i64 (.ofNat (nat_lit 1)))) fun x34 =>
  rc [x34] h
noncomputable def f65_2 (rc : List V → HT → Option J) (x0 : V) (x2 : V) (x22 : V) (h : HT) : Option J := bndV (rLd h x22) fun x23 =>
  bndV (rLss x2 x23) fun x24 =>
  bndC (gsel x24 true (retV (kMov [x0]) h) h) fun x26 h =>
  bndC (gsel x24 true (retV (rNilc x26) h) h) fun x27 h =>
  bndC (gsel x24 true (retV (rFa 70 x27) h) h) fun x28 h =>
  bndC (gsel x24 true (retV (rLd h x28) h) h) fun x29 h =>
  bndC (gsel x24 true (retV (qBin .rem [x29, (.int .i64 (.ofNat (nat_lit 8)))]) h) h) fun x30 h =>
  bndC (gsel x24 true (retV (rEql x30 (.int .i64 (.ofNat (nat_lit 0)))) h) h) fun x31 h =>
  bndV (rPick x24 x31 (.bool false)) fun x32 =>
  tstv x32 (bndV (rNilc x0) fun x37 =>
  bndV (rFa 1 x37) fun x38 =>
  bndV (rLd h x38) fun x39 =>
  (f65_1 rc x0 x2 x39 h))
  (some ⟨0, [], h⟩)
noncomputable def f65_3 (x0 : V) (h : HT) : Option J := bndV (rNilc x0) fun x13 =>
  bndV (rFa 70 x13) fun x14 =>
  bndV (rLd h x14) fun x15 =>
  bndV (rAdd x15 (.int .i64 (.ofNat (nat_lit 1)))) fun x16 =>
  bndV (rNilc x0) fun x17 =>
  bndV (rFa 70 x17) fun x18 =>
  bndE (rSt h 1 x18 x16) h fun _ h =>
  bndJ (loopF (fun rc vs h => unc1 vs fun x2 =>
  bndV (rNilc x0) fun x21 =>
  bndV (rFa 0 x21) fun x22 =>
  (f65_2 rc x0 x2 x22 h)) 1000000 [(.int .i64 (.ofNat (nat_lit 0)))] h)
  fun j vs h => bndC (f45 [x0] h) fun x71 h =>
  ret1 (.tuple []) h
noncomputable def f65 (vs : List V) (h : HT) : Option J := unc1 vs fun x0 =>
  bndV (rNilc x0) fun x4 =>
  bndV (rFa 74 x4) fun x5 =>
  bndV (rLd h x5) fun x6 =>
  tstv x6 (ret1 (.tuple []) h)
  (bndV (rNilc x0) fun x8 =>
  bndV (rFa 4 x8) fun x9 =>
  bndV (rLd h x9) fun x10 =>
  bndC (f150 [x10] h) fun x11 h =>
  (f65_3 x0 h))

/- (*concord/disk.Disk).Arm -/
noncomputable def l66 : List (Nat × (List V → HT → Option J)) := []
noncomputable def t66 : Fns := tab l66

noncomputable def f66 (vs : List V) (h : HT) : Option J := unc2 vs fun x0 x1 =>
  bndV (rGeq x1 (.int .i64 (.ofNat (nat_lit 0)))) fun x7 =>
  bndV (rMax x1 (.int .i64 (.ofNat (nat_lit 0)))) fun x9 =>
  bndV (rNilc x0) fun x10 =>
  bndV (rFa 3 x10) fun x11 =>
  bndE (rSt h 1 x11 x7) h fun _ h =>
  bndV (rNilc x0) fun x12 =>
  bndV (rFa 4 x12) fun x13 =>
  bndE (rSt h 1 x13 x9) h fun _ h =>
  ret1 (.tuple []) h

/- (*concord/disk.Disk).Crash -/
noncomputable def l67 : List (Nat × (List V → HT → Option J)) := [(151, f151)]
noncomputable def t67 : Fns := tab l67
noncomputable def f67_0 (rc : List V → HT → Option J) (x21 : V) (x29 : V) (x43 : V) (x47 : V) (x60 : V) (h : HT) : Option J := bndV (rAdd x47 x60) fun x61 =>
  bndV (kSlS 1 false true [x43, x61]) fun x62 =>
  bndC (f151 [x62] h) fun x63 h =>
  bndV (rNilc x29) fun x64 =>
  bndV (rFa 1 x64) fun x65 =>
  bndE (rSt h 1 x65 x63) h fun _ h =>
  bndV (rNilc x29) fun x68 =>
  bndV (rFa 1 x68) fun x69 =>
  bndV (rLd h x69) fun x70 =>
  bndV (rLenS x70) fun x71 =>
  bndV (rNilc x29) fun x72 =>
  bndV (rFa 2 x72) fun x73 =>
  bndE (rSt h 1 x73 x71) h fun _ h =>
  bndV (rAdd x21 (.int .i64 (.ofNat (nat_lit 1)))) fun x74 =>
  rc [x74] h
noncomputable def f67_1 (rc : List V → HT → Option J) (x6 : V) (x21 : V) (x29 : V) (x42 : V) (h : HT) : Option J := bndV (rLd h x42) fun x43 =>
  bndV (rNilc x29) fun x45 =>
  bndV (rFa 2 x45) fun x46 =>
  bndV (rLd h x46) fun x47 =>
  bndV (rNilc x29) fun x50 =>
  bndV (rFa 1 x50) fun x51 =>
  bndV (rLd h x51) fun x52 =>
  bndV (rLenS x52) fun x53 =>
  bndV (rNilc x29) fun x55 =>
  bndV (rFa 2 x55) fun x56 =>
  bndV (rLd h x56) fun x57 =>
  bndV (rSub x53 x57) fun x58 =>
  bndV (rAdd x58 (.int .i64 (.ofNat (nat_lit 1)))) fun x59 =>
  bndV (qBin .rem [x6, x59]) fun x60 =>
  (f67_0 rc x21 x29 x43 x47 x60 h)
noncomputable def f67_2 (rc : List V → HT → Option J) (x1 : V) (x21 : V) (x26 : V) (h : HT) : Option J := bndV (rLd h x26) fun x27 =>
  bndV (rIaS 3 x27 x21) fun x29 =>
  bndV (rLenS x1) fun x32 =>
  bndV (rLss x21 x32) fun x33 =>
  bndJ (tstv x33 (bndV (rIaS 1 x1 x21) fun x36 =>
  bndV (rLd h x36) fun x37 =>
  bndV (rMax x37 (.int .i64 (.ofNat (nat_lit 0)))) fun x38 =>
  some ⟨0, [x38], h⟩)
  (some ⟨0, [(.int .i64 (.ofNat (nat_lit 0)))], h⟩))
  fun j vs h => unc1 vs fun x6 =>
  bndV (rNilc x29) fun x41 =>
  bndV (rFa 1 x41) fun x42 =>
  (f67_1 rc x6 x21 x29 x42 h)
noncomputable def f67_3 (x0 : V) (x1 : V) (x15 : V) (h : HT) : Option J := bndE (rSt h 1 x15 (.int .i64 (.ofNat (nat_lit 0)))) h fun _ h =>
  bndV (rNilc x0) fun x17 =>
  bndV (rFa 1 x17) fun x18 =>
  bndV (rLd h x18) fun x19 =>
  bndV (rLenS x19) fun x20 =>
  bndJ (loopF (fun rc vs h => unc1 vs fun x21 =>
  bndV (rLss x21 x20) fun x22 =>
  tstv x22 (bndV (rNilc x0) fun x25 =>
  bndV (rFa 1 x25) fun x26 =>
  (f67_2 rc x1 x21 x26 h))
  (some ⟨0, [], h⟩)) 1000000 [(.int .i64 (.ofNat (nat_lit 0)))] h)
  fun j vs h => ret1 (.tuple []) h
noncomputable def f67 (vs : List V) (h : HT) : Option J := unc2 vs fun x0 x1 =>
  bndV (rNilc x0) fun x10 =>
  bndV (rFa 2 x10) fun x11 =>
  bndE (rSt h 1 x11 (.bool false)) h fun _ h =>
  bndV (rNilc x0) fun x12 =>
  bndV (rFa 3 x12) fun x13 =>
  bndE (rSt h 1 x13 (.bool false)) h fun _ h =>
  bndV (rNilc x0) fun x14 =>
  bndV (rFa 4 x14) fun x15 =>
  (f67_3 x0 x1 x15 h)

/- (*concord/cluster.Cluster).Do -/
noncomputable def l21 : List (Nat × (List V → HT → Option J)) := [(22, f22), (60, f60), (61, f61), (62, f62), (63, f63), (64, f64), (65, f65), (66, f66), (67, f67)]
noncomputable def t21 : Fns := tab l21
noncomputable def f21_0 (x0 : V) (x3 : V) (x66 : V) (h : HT) : Option J := bndV (rFa 1 x3) fun x67 =>
  bndV (rLd h x67) fun x68 =>
  bndV (rIaS 1 x66 x68) fun x69 =>
  bndE (rSt h 1 x69 (.ptr none)) h fun _ h =>
  bndV (rNilc x0) fun x71 =>
  bndV (rFa 1 x71) fun x72 =>
  bndV (rLd h x72) fun x73 =>
  bndV (rFa 1 x3) fun x74 =>
  bndV (rLd h x74) fun x75 =>
  bndV (rIaS 1 x73 x75) fun x76 =>
  bndV (rLd h x76) fun x77 =>
  bndV (rFa 11 x3) fun x78 =>
  bndV (rLd h x78) fun x79 =>
  bndC (f67 [x77, x79] h) fun x80 h =>
  ret1 (.bool true) h
noncomputable def f21_1 (x0 : V) (x3 : V) (x39 : V) (x49 : V) (h : HT) : Option J := tstv x49 (bndV (rNilc x0) fun x51 =>
  bndV (rFa 1 x51) fun x52 =>
  bndV (rLd h x52) fun x53 =>
  bndV (rFa 1 x3) fun x54 =>
  bndV (rLd h x54) fun x55 =>
  bndV (rIaS 1 x53 x55) fun x56 =>
  bndV (rLd h x56) fun x57 =>
  bndV (rFa 2 x3) fun x58 =>
  bndV (rLd h x58) fun x59 =>
  bndC (f66 [x57, x59] h) fun x60 h =>
  ret1 (.bool true) h)
  (bndV (rEql x39 (.int .i64 (.ofNat (nat_lit 8)))) fun x62 =>
  tstv x62 (bndV (rNilc x0) fun x64 =>
  bndV (rFa 2 x64) fun x65 =>
  bndV (rLd h x65) fun x66 =>
  (f21_0 x0 x3 x66 h))
  (ret1 (.bool false) h))
noncomputable def f21_2 (x0 : V) (x3 : V) (x34 : V) (h : HT) : Option J := bndC (f22 [x0, x34] h) fun x35 h =>
  bndV (kEqN false [x35, (.ptr none)]) fun x37 =>
  tstv x37 (ret1 (.bool false) h)
  (bndV (rFa 0 x3) fun x38 =>
  bndV (rLd h x38) fun x39 =>
  bndV (rEql x39 (.int .i64 (.ofNat (nat_lit 5)))) fun x41 =>
  tstv x41 (bndC (f65 [x35] h) fun x43 h =>
  bndV (rFa 1 x3) fun x45 =>
  bndV (rLd h x45) fun x46 =>
  bndC (f60 [x0, x46] h) fun x47 h =>
  ret1 (.bool true) h)
  (bndV (rEql x39 (.int .i64 (.ofNat (nat_lit 7)))) fun x49 =>
  (f21_1 x0 x3 x39 x49 h)))
noncomputable def f21_3 (x0 : V) (x3 : V) (x7 : V) (h : HT) : Option J := bndV (rEql x7 (.int .i64 (.ofNat (nat_lit 6)))) fun x21 =>
  tstv x21 (bndV (rFa 1 x3) fun x23 =>
  bndV (rLd h x23) fun x24 =>
  bndC (f63 [x0, x24] h) fun x25 h =>
  ret1 x25 h)
  (bndV (rEql x7 (.int .i64 (.ofNat (nat_lit 9)))) fun x27 =>
  tstv x27 (bndV (rFa 1 x3) fun x29 =>
  bndV (rLd h x29) fun x30 =>
  bndC (f64 [x0, x30] h) fun x31 h =>
  ret1 x31 h)
  (bndV (rFa 1 x3) fun x33 =>
  bndV (rLd h x33) fun x34 =>
  (f21_2 x0 x3 x34 h)))
noncomputable def f21_4 (x0 : V) (x3 : V) (x7 : V) (x14 : V) (h : HT) : Option J := bndJ (tstv x14 (some ⟨0, [x14], h⟩)
  (bndV (rEql x7 (.int .i64 (.ofNat (nat_lit 3)))) fun x15 =>
  bndJ (tstv x15 (some ⟨0, [x15], h⟩)
  (bndV (rEql x7 (.int .i64 (.ofNat (nat_lit 4)))) fun x16 =>
  some ⟨0, [x16], h⟩))
  fun j vs h => unc1 vs fun x13 =>
  some ⟨0, [x13], h⟩))
  fun j vs h => unc1 vs fun x13 =>
  tstv x13 (bndV (rLdN h 12 x3) fun x18 =>
  bndC (f62 [x0, x18] h) fun x19 h =>
  ret1 x19 h)
  ((f21_3 x0 x3 x7 h))
noncomputable def f21 (vs : List V) (h : HT) : Option J := unc2 vs fun x0 x1 =>
  bndN (rBox x1) h fun x3 h =>
  bndV (rFa 0 x3) fun x6 =>
  bndV (rLd h x6) fun x7 =>
  bndV (rEql x7 (.int .i64 (.ofNat (nat_lit 1)))) fun x9 =>
  tstv x9 (bndV (rLdN h 12 x3) fun x11 =>
  bndC (f61 [x0, x11] h) fun x12 h =>
  ret1 x12 h)
  (bndV (rEql x7 (.int .i64 (.ofNat (nat_lit 2)))) fun x14 =>
  (f21_4 x0 x3 x7 x14 h))

/- slices.Clone[[]concord/api.Event,concord/api.Event] -/
noncomputable def l69 : List (Nat × (List V → HT → Option J)) := []
noncomputable def t69 : Fns := tab l69

noncomputable def f69 (vs : List V) (h : HT) : Option J := unc1 vs fun x0 =>
  bndV (kEqN false [x0, (.slice none 0 true 0)]) fun x4 =>
  tstv x4 (ret1 (.slice none 0 true 0) h)
  (bndN (rBsl 14 0 [] [] []) h fun x5 h =>
  bndE (dApp h 14 168 [x5, x0]) h fun x7 h =>
  ret1 x7 h)

/- (*concord/cluster.Cluster).History -/
noncomputable def l25 : List (Nat × (List V → HT → Option J)) := [(69, f69), (70, f70)]
noncomputable def t25 : Fns := tab l25
noncomputable def f25_0 (rc : List V → HT → Option J) (x9 : V) (x11 : V) (vs : List V) (h : HT) : Option J := unc1 vs fun x12 =>
  bndV (rLss x12 x11) fun x13 =>
  tstv x13 (bndV (rIaS 14 x9 x12) fun x19 =>
  bndV (rFa 9 x19) fun x20 =>
  bndV (rFa 4 x20) fun x21 =>
  bndV (rLd h x21) fun x22 =>
  bndC (f70 [x22] h) fun x23 h =>
  bndV (rIaS 14 x9 x12) fun x24 =>
  bndV (rFa 9 x24) fun x25 =>
  bndV (rFa 4 x25) fun x26 =>
  bndE (rSt h 1 x26 x23) h fun _ h =>
  bndV (rAdd x12 (.int .i64 (.ofNat (nat_lit 1)))) fun x27 =>
  rc [x27] h)
  (some ⟨0, [], h⟩)
noncomputable def f25 (vs : List V) (h : HT) : Option J := unc1 vs fun x0 =>
  bndV (rNilc x0) fun x6 =>
  bndV (rFa 6 x6) fun x7 =>
  bndV (rLd h x7) fun x8 =>
  bndC (f69 [x8] h) fun x9 h =>
  bndV (rLenS x9) fun x11 =>
  bndJ (loopF (fun rc vs h => (f25_0 rc x9 x11 vs h)) 1000000 [(.int .i64 (.ofNat (nat_lit 0)))] h)
  fun j vs h => ret1 x9 h

/- (*concord/client.Client).Waits -/
noncomputable def l152 : List (Nat × (List V → HT → Option J)) := []
noncomputable def t152 : Fns := tab l152

noncomputable def f152 (vs : List V) (h : HT) : Option J := unc1 vs fun x0 =>
  bndV (rNilc x0) fun x4 =>
  bndV (rFa 9 x4) fun x5 =>
  bndV (rLd h x5) fun x6 =>
  ret1 x6 h

/- (*concord/cluster.Cluster).Waits -/
noncomputable def l71 : List (Nat × (List V → HT → Option J)) := [(144, f144), (152, f152)]
noncomputable def t71 : Fns := tab l71

noncomputable def f71 (vs : List V) (h : HT) : Option J := unc2 vs fun x0 x1 =>
  bndC (f144 [x1] h) fun x6 h =>
  bndC (gsel x6 true (retV (kMov [x0]) h) h) fun x8 h =>
  bndC (gsel x6 true (retV (rNilc x8) h) h) fun x9 h =>
  bndC (gsel x6 true (retV (rFa 3 x9) h) h) fun x10 h =>
  bndC (gsel x6 true (retV (rLd h x10) h) h) fun x11 h =>
  bndC (gsel x6 true (retV (kMov [x1]) h) h) fun x12 h =>
  bndC (gsel x6 true (retV (rSub x12 (.int .i64 (.ofNat (nat_lit 1)))) h) h) fun x13 h =>
  bndC (gsel x6 true (retV (rIaS 1 x11 x13) h) h) fun x14 h =>
  bndC (gsel x6 true (retV (rLd h x14) h) h) fun x15 h =>
  bndC (gsel x6 true (f152 [x15] h) h) fun x16 h =>
  bndV (rPick x6 x16 (.bool false)) fun x17 =>
  ret1 x17 h

/- concord/concordlaw25.ClusterRuns -/
noncomputable def l26 : List (Nat × (List V → HT → Option J)) := [(18, f18), (21, f21), (25, f25), (71, f71)]
noncomputable def t26 : Fns := tab l26
noncomputable def f26_0 (x10 : V) (x45 : V) (x72 : V) (x77 : V) (h : HT) : Option J := bndC (gsel x72 true (retV (rLd h x77) h) h) fun x78 h =>
  bndC (gsel x72 true (retV (rEql x78 (.int .i64 (.ofNat (nat_lit 1)))) h) h) fun x79 h =>
  bndV (rPick x72 x79 (.bool false)) fun x80 =>
  bndC (gsel x80 true (retV (kMov [x45]) h) h) fun x82 h =>
  bndC (gsel x80 true (retV (rIaS 14 x82 (.int .i64 (.ofNat (nat_lit 1)))) h) h) fun x83 h =>
  bndC (gsel x80 true (retV (rFa 2 x83) h) h) fun x84 h =>
  bndC (gsel x80 true (retV (rFa 2 x84) h) h) fun x85 h =>
  bndC (gsel x80 true (retV (rLd h x85) h) h) fun x86 h =>
  bndC (gsel x80 true (retV (rEql x86 (.int .i64 (.ofNat (nat_lit 1)))) h) h) fun x87 h =>
  bndV (rPick x80 x87 (.bool false)) fun x88 =>
  bndC (gsel x88 true (retV (kMov [x10]) h) h) fun x90 h =>
  bndC (gsel x88 true (f71 [x90, (.int .i64 (.ofNat (nat_lit 1)))] h) h) fun x91 h =>
  bndC (gsel x88 true (retV (rNot x91) h) h) fun x92 h =>
  bndV (rPick x88 x92 (.bool false)) fun x93 =>
  ret1 x93 h
noncomputable def f26_1 (x10 : V) (x45 : V) (x58 : V) (x61 : V) (h : HT) : Option J := bndC (gsel x58 true (retV (rFa 0 x61) h) h) fun x62 h =>
  bndC (gsel x58 true (retV (rLd h x62) h) h) fun x63 h =>
  bndC (gsel x58 true (retV (rEql x63 (.int .i64 (.ofNat (nat_lit 2)))) h) h) fun x64 h =>
  bndV (rPick x58 x64 (.bool false)) fun x65 =>
  bndC (gsel x65 true (retV (kMov [x45]) h) h) fun x67 h =>
  bndC (gsel x65 true (retV (rIaS 14 x67 (.int .i64 (.ofNat (nat_lit 1)))) h) h) fun x68 h =>
  bndC (gsel x65 true (retV (rFa 1 x68) h) h) fun x69 h =>
  bndC (gsel x65 true (retV (rLd h x69) h) h) fun x70 h =>
  bndC (gsel x65 true (retV (rEql x70 (.int .i64 (.ofNat (nat_lit 1)))) h) h) fun x71 h =>
  bndV (rPick x65 x71 (.bool false)) fun x72 =>
  bndC (gsel x72 true (retV (kMov [x45]) h) h) fun x74 h =>
  bndC (gsel x72 true (retV (rIaS 14 x74 (.int .i64 (.ofNat (nat_lit 1)))) h) h) fun x75 h =>
  bndC (gsel x72 true (retV (rFa 9 x75) h) h) fun x76 h =>
  bndC (gsel x72 true (retV (rFa 3 x76) h) h) fun x77 h =>
  (f26_0 x10 x45 x72 x77 h)
noncomputable def f26_2 (x10 : V) (x34 : V) (h : HT) : Option J := bndJ (loopF (fun rc vs h => unc1 vs fun x6 =>
  bndV (rLss x6 (.int .i64 (.ofNat (nat_lit 100)))) fun x36 =>
  bndC (gsel x36 true (retV (kMov [x10]) h) h) fun x38 h =>
  bndC (gsel x36 true (retV (rBld [(.int .i64 (.ofNat (nat_lit 0))), (.int .i64 (.ofNat (nat_lit 0))), (.int .i64 (.ofNat (nat_lit 0))), (.int .i64 (.ofNat (nat_lit 0))), (.int .i64 (.ofNat (nat_lit 0))), (.int .i64 (.ofNat (nat_lit 0))), (.int .i64 (.ofNat (nat_lit 0))), (.str (sb [])), (.str (sb [])), (.str (sb [])), (.str (sb [])), (.slice none 0 true 0)] [(0, 1)] [(.int .i64 (.ofNat (nat_lit 2)))]) h) h) fun x39 h =>
  bndC (gsel x36 true (f21 [x38, x39] h) h) fun x40 h =>
  bndV (rPick x36 x40 (.bool false)) fun x41 =>
  tstv x41 (bndV (rAdd x6 (.int .i64 (.ofNat (nat_lit 1)))) fun x43 =>
  rc [x43] h)
  (some ⟨0, [], h⟩)) 1000000 [(.int .i64 (.ofNat (nat_lit 0)))] h)
  fun j vs h => bndC (f25 [x10] h) fun x45 h =>
  bndC (gsel x34 true (retV (kMov [x45]) h) h) fun x48 h =>
  bndC (gsel x34 true (retV (rLenS x48) h) h) fun x49 h =>
  bndC (gsel x34 true (retV (rEql x49 (.int .i64 (.ofNat (nat_lit 2)))) h) h) fun x50 h =>
  bndV (rPick x34 x50 (.bool false)) fun x51 =>
  bndC (gsel x51 true (retV (kMov [x45]) h) h) fun x53 h =>
  bndC (gsel x51 true (retV (rIaS 14 x53 (.int .i64 (.ofNat (nat_lit 0)))) h) h) fun x54 h =>
  bndC (gsel x51 true (retV (rFa 0 x54) h) h) fun x55 h =>
  bndC (gsel x51 true (retV (rLd h x55) h) h) fun x56 h =>
  bndC (gsel x51 true (retV (rEql x56 (.int .i64 (.ofNat (nat_lit 1)))) h) h) fun x57 h =>
  bndV (rPick x51 x57 (.bool false)) fun x58 =>
  bndC (gsel x58 true (retV (kMov [x45]) h) h) fun x60 h =>
  bndC (gsel x58 true (retV (rIaS 14 x60 (.int .i64 (.ofNat (nat_lit 1)))) h) h) fun x61 h =>
  (f26_1 x10 x45 x58 x61 h)
noncomputable def f26_3 (x10 : V) (x15 : V) (x17 : V) (x19 : V) (h : HT) : Option J := bndC (gsel x17 false (retV (rNeq x19 (.int .i64 (.ofNat (nat_lit 0)))) h) h) fun x20 h =>
  bndV (rPick x17 (.bool true) x20) fun x21 =>
  bndC (gsel x21 false (retV (kMov [x15]) h) h) fun x23 h =>
  bndC (gsel x21 false (retV (rNeq x23 (.int .i64 (.ofNat (nat_lit 1)))) h) h) fun x24 h =>
  bndV (rPick x21 (.bool true) x24) fun x25 =>
  bndC (gsel x25 false (retV (kMov [x10]) h) h) fun x27 h =>
  bndC (gsel x25 false (retV (rBld [(.int .i64 (.ofNat (nat_lit 0))), (.int .i64 (.ofNat (nat_lit 0))), (.int .i64 (.ofNat (nat_lit 0))), (.int .i64 (.ofNat (nat_lit 0))), (.int .i64 (.ofNat (nat_lit 0))), (.int .i64 (.ofNat (nat_lit 0))), (.int .i64 (.ofNat (nat_lit 0))), (.str (sb [])), (.str (sb [])), (.str (sb [])), (.str (sb [])), (.slice none 0 true 0)] [(0, 1)] [(.int .i64 (.ofNat (nat_lit 2)))]) h) h) fun x28 h =>
  bndC (gsel x25 false (f21 [x27, x28] h) h) fun x29 h =>
  bndV (rPick x25 (.bool true) x29) fun x30 =>
  tstv x30 (ret1 (.bool false) h)
  (bndV (rBld [(.int .i64 (.ofNat (nat_lit 0))), (.int .i64 (.ofNat (nat_lit 0))), (.int .i64 (.ofNat (nat_lit 0))), (.str (sb [])), (.str (sb [])), (.str (sb [])), (.str (sb []))] [(0, 1), (3, 1)] [(.int .i64 (.ofNat (nat_lit 2))), (.str (sb [97]))]) fun x32 =>
  bndV (rBld [(.int .i64 (.ofNat (nat_lit 0))), (.int .i64 (.ofNat (nat_lit 0))), (.int .i64 (.ofNat (nat_lit 0))), (.int .i64 (.ofNat (nat_lit 0))), (.int .i64 (.ofNat (nat_lit 0))), (.int .i64 (.ofNat (nat_lit 0))), (.int .i64 (.ofNat (nat_lit 0))), (.str (sb [])), (.str (sb [])), (.str (sb [])), (.str (sb [])), (.slice none 0 true 0)] [(0, 1), (3, 1), (4, 7)] [(.int .i64 (.ofNat (nat_lit 1))), (.int .i64 (.ofNat (nat_lit 1))), x32]) fun x33 =>
  bndC (f21 [x10, x33] h) fun x34 h =>
  (f26_2 x10 x34 h))
noncomputable def f26 (vs : List V) (h : HT) : Option J := bndC (f18 [(.int .i64 (.ofNat (nat_lit 3)))] h) fun x9 h =>
  bndV (rExt 0 x9) fun x10 =>
  bndV (rExt 1 x9) fun x11 =>
  bndC (f18 [(.int .i64 (.ofNat (nat_lit 4)))] h) fun x13 h =>
  bndV (rExt 0 x13) fun x14 =>
  bndV (rExt 1 x13) fun x15 =>
  bndV (kEqN false [x10, (.ptr none)]) fun x17 =>
  bndC (gsel x17 false (retV (kMov [x11]) h) h) fun x19 h =>
  (f26_3 x10 x15 x17 x19 h)

/- concord/audit.Fine -/
noncomputable def l30 : List (Nat × (List V → HT → Option J)) := []
noncomputable def t30 : Fns := tab l30

noncomputable def f30 (vs : List V) (h : HT) : Option J := unc1 vs fun x0 =>
  bndN (rBox x0) h fun x1 h =>
  bndV (rFa 2 x1) fun x3 =>
  bndV (rLd h x3) fun x4 =>
  bndV (rEql x4 (.int .i64 (.ofNat (nat_lit 0)))) fun x5 =>
  bndC (gsel x5 true (retV (rFa 3 x1) h) h) fun x7 h =>
  bndC (gsel x5 true (retV (rLd h x7) h) h) fun x8 h =>
  bndC (gsel x5 true (retV (rEql x8 (.int .i64 (.ofNat (nat_lit 0)))) h) h) fun x9 h =>
  bndV (rPick x5 x9 (.bool false)) fun x10 =>
  bndC (gsel x10 true (retV (rFa 4 x1) h) h) fun x12 h =>
  bndC (gsel x10 true (retV (rLd h x12) h) h) fun x13 h =>
  bndC (gsel x10 true (retV (rEql x13 (.int .i64 (.ofNat (nat_lit 0)))) h) h) fun x14 h =>
  bndV (rPick x10 x14 (.bool false)) fun x15 =>
  ret1 x15 h

/- (*concord/cluster.Cluster).Nodes -/
noncomputable def l20 : List (Nat × (List V → HT → Option J)) := []
noncomputable def t20 : Fns := tab l20

noncomputable def f20 (vs : List V) (h : HT) : Option J := unc1 vs fun x0 =>
  bndV (rNilc x0) fun x4 =>
  bndV (rFa 0 x4) fun x5 =>
  bndV (rLd h x5) fun x6 =>
  ret1 x6 h

/- concord/audit.up -/
noncomputable def l154 : List (Nat × (List V → HT → Option J)) := [(20, f20), (22, f22)]
noncomputable def t154 : Fns := tab l154
noncomputable def f154_0 (rc : List V → HT → Option J) (x0 : V) (x7 : V) (vs : List V) (h : HT) : Option J := unc2 vs fun x3 x8 =>
  bndV (rLss x8 x7) fun x9 =>
  tstv x9 (bndC (f22 [x0, x8] h) fun x13 h =>
  bndV (kEqN true [x13, (.ptr none)]) fun x15 =>
  bndJ (tstv x15 (bndN (rBsl 1 1 [(.ptr none)] [(0, 1)] [x13]) h fun x18 h =>
  bndE (dApp h 1 8 [x3, x18]) h fun x19 h =>
  some ⟨0, [x19], h⟩)
  (some ⟨0, [x3], h⟩))
  fun j vs h => unc1 vs fun x3 =>
  bndV (rAdd x8 (.int .i64 (.ofNat (nat_lit 1)))) fun x20 =>
  rc [x3, x20] h)
  (some ⟨0, [x3], h⟩)
noncomputable def f154 (vs : List V) (h : HT) : Option J := unc1 vs fun x0 =>
  bndC (f20 [x0] h) fun x7 h =>
  bndJ (loopF (fun rc vs h => (f154_0 rc x0 x7 vs h)) 1000000 [(.slice none 0 true 0), (.int .i64 (.ofNat (nat_lit 0)))] h)
  fun j vs h => unc1 vs fun x3 =>
  ret1 x3 h

/- (*concord/core.Core).Top -/
noncomputable def l52 : List (Nat × (List V → HT → Option J)) := [(125, f125)]
noncomputable def t52 : Fns := tab l52

noncomputable def f52 (vs : List V) (h : HT) : Option J := unc1 vs fun x0 =>
  bndN (rAlloc [(.int .i64 (.ofNat (nat_lit 0))), (.int .i64 (.ofNat (nat_lit 0))), (.int .i64 (.ofNat (nat_lit 0))), (.int .i64 (.ofNat (nat_lit 0))), (.int .i64 (.ofNat (nat_lit 0))), (.int .i64 (.ofNat (nat_lit 0))), (.int .i64 (.ofNat (nat_lit 0)))] []) h fun x2 h =>
  bndV (rNilc x0) fun x4 =>
  bndV (rFa 2 x4) fun x5 =>
  bndV (rLd h x5) fun x6 =>
  bndC (f125 [x6] h) fun x7 h =>
  bndE (rSt h 7 x2 x7) h fun _ h =>
  bndV (qLd h (some 7) [x2]) fun x900000 =>
  ret1 x900000 h

/- (*concord/node.Node).Top -/
noncomputable def l14 : List (Nat × (List V → HT → Option J)) := [(52, f52)]
noncomputable def t14 : Fns := tab l14

noncomputable def f14 (vs : List V) (h : HT) : Option J := unc1 vs fun x0 =>
  bndN (rAlloc [(.int .i64 (.ofNat (nat_lit 0))), (.int .i64 (.ofNat (nat_lit 0))), (.int .i64 (.ofNat (nat_lit 0))), (.int .i64 (.ofNat (nat_lit 0))), (.int .i64 (.ofNat (nat_lit 0))), (.int .i64 (.ofNat (nat_lit 0))), (.int .i64 (.ofNat (nat_lit 0)))] []) h fun x2 h =>
  bndV (rNilc x0) fun x4 =>
  bndV (rFa 4 x4) fun x5 =>
  bndV (rLd h x5) fun x6 =>
  bndC (f52 [x6] h) fun x7 h =>
  bndE (rSt h 7 x2 x7) h fun _ h =>
  bndV (qLd h (some 7) [x2]) fun x900000 =>
  ret1 x900000 h

/- (*concord/node.Node).Cut -/
noncomputable def l226 : List (Nat × (List V → HT → Option J)) := [(200, f200)]
noncomputable def t226 : Fns := tab l226

noncomputable def f226 (vs : List V) (h : HT) : Option J := unc1 vs fun x0 =>
  bndN (rAlloc [(.int .i64 (.ofNat (nat_lit 0))), (.int .i64 (.ofNat (nat_lit 0))), (.int .i64 (.ofNat (nat_lit 0))), (.int .i64 (.ofNat (nat_lit 0))), (.int .i64 (.ofNat (nat_lit 0))), (.int .i64 (.ofNat (nat_lit 0))), (.int .i64 (.ofNat (nat_lit 0)))] []) h fun x2 h =>
  bndV (rNilc x0) fun x4 =>
  bndV (rFa 4 x4) fun x5 =>
  bndV (rLd h x5) fun x6 =>
  bndC (f200 [x6] h) fun x7 h =>
  bndE (rSt h 7 x2 x7) h fun _ h =>
  bndV (qLd h (some 7) [x2]) fun x900000 =>
  ret1 x900000 h

/- (*concord/node.Node).Cell -/
noncomputable def l227 : List (Nat × (List V → HT → Option J)) := [(124, f124)]
noncomputable def t227 : Fns := tab l227

noncomputable def f227 (vs : List V) (h : HT) : Option J := unc2 vs fun x0 x1 =>
  bndN (rBox x1) h fun x3 h =>
  bndN (rAlloc [(.int .i64 (.ofNat (nat_lit 0))), (.int .i64 (.ofNat (nat_lit 0))), (.int .i64 (.ofNat (nat_lit 0))), (.int .i64 (.ofNat (nat_lit 0))), (.int .i64 (.ofNat (nat_lit 0))), (.int .i64 (.ofNat (nat_lit 0))), (.int .i64 (.ofNat (nat_lit 0))), (.int .i64 (.ofNat (nat_lit 0))), (.str (sb [])), (.str (sb [])), (.str (sb [])), (.str (sb [])), (.int .i64 (.ofNat (nat_lit 0))), (.int .i64 (.ofNat (nat_lit 0))), (.int .i64 (.ofNat (nat_lit 0))), (.int .i64 (.ofNat (nat_lit 0))), (.int .i64 (.ofNat (nat_lit 0))), (.int .i64 (.ofNat (nat_lit 0))), (.int .i64 (.ofNat (nat_lit 0))), (.int .i64 (.ofNat (nat_lit 0))), (.bool false)] []) h fun x4 h =>
  bndV (rNilc x0) fun x7 =>
  bndV (rFa 4 x7) fun x8 =>
  bndV (rLd h x8) fun x9 =>
  bndV (rLdN h 2 x3) fun x10 =>
  bndC (f124 [x9, x10] h) fun x11 h =>
  bndV (rExt 0 x11) fun x12 =>
  bndV (rExt 1 x11) fun x13 =>
  bndE (rSt h 21 x4 x12) h fun _ h =>
  bndV (qLd h (some 21) [x4]) fun x900000 =>
  ret1 (.tuple [x900000, x13]) h

/- concord/audit.committed -/
noncomputable def l155 : List (Nat × (List V → HT → Option J)) := [(14, f14), (226, f226), (227, f227)]
noncomputable def t155 : Fns := tab l155
noncomputable def f155_0 (x7 : V) (x15 : V) (x16 : V) (x18 : V) (x21 : V) (x74 : V) (x76 : V) (h : HT) : Option J := bndV (kEqF true [.i, .i, .i, .s, .s, .s, .s] [x74, x76]) fun x77 =>
  bndC (gsel x77 false (retV (rFa 12 x18) h) h) fun x79 h =>
  bndC (gsel x77 false (retV (rLdN h 8 x79) h) h) fun x80 h =>
  bndC (gsel x77 false (retV (rFa 12 x16) h) h) fun x81 h =>
  bndC (gsel x77 false (retV (rLdN h 8 x81) h) h) fun x82 h =>
  bndC (gsel x77 false (retV (kEqF true [.i, .i, .i, .i, .i, .i, .i, .i] [x80, x82]) h) h) fun x83 h =>
  bndV (rPick x77 (.bool true) x83) fun x84 =>
  bndJ (tstv x84 (bndV (rLdN h 2 x15) fun x86 =>
  bndV (rBld [] [] []) fun x87 =>
  bndE (dMset h true [.i, .i] [x21, x86, x87]) h fun _ h =>
  some ⟨0, [], h⟩)
  (some ⟨0, [], h⟩))
  fun j vs h => some ⟨0, [x7], h⟩
noncomputable def f155_1 (x7 : V) (x15 : V) (x16 : V) (x18 : V) (x20 : V) (x21 : V) (x65 : V) (h : HT) : Option J := tstv x65 (bndV (rLdN h 2 x15) fun x67 =>
  bndV (rLdN h 2 x15) fun x69 =>
  bndN (rBsl 2 1 [(.int .i64 (.ofNat (nat_lit 0))), (.int .i64 (.ofNat (nat_lit 0)))] [(0, 2)] [x69]) h fun x70 h =>
  bndV (rLdN h 21 x16) fun x72 =>
  bndE (dApp h 2 16 [x7, x70]) h fun x71 h =>
  chk1 (sameE (rLdN h 21 x16) x72) (chk1 (sameE (rLdN h 2 x15) x67) (bndE (dMset h true [.i, .i] [x20, x67, x72]) h fun _ h =>
  some ⟨0, [x71], h⟩)))
  (bndV (rFa 5 x18) fun x73 =>
  bndV (rLdN h 7 x73) fun x74 =>
  bndV (rFa 5 x16) fun x75 =>
  bndV (rLdN h 7 x75) fun x76 =>
  (f155_0 x7 x15 x16 x18 x21 x74 x76 h))
noncomputable def f155_2 (x7 : V) (x15 : V) (x16 : V) (x20 : V) (x21 : V) (x55 : V) (h : HT) : Option J := bndV (rLd h x55) fun x56 =>
  bndV (rNeq x56 (.int .i64 (.ofNat (nat_lit 3)))) fun x57 =>
  tstv x57 (some ⟨0, [x7], h⟩)
  (bndV (rLdN h 2 x15) fun x60 =>
  bndV (kLkp h.heap true [.i, .i] (.agg [(.int .i64 (.ofNat (nat_lit 0))), (.int .i64 (.ofNat (nat_lit 0))), (.int .i64 (.ofNat (nat_lit 0))), (.int .i64 (.ofNat (nat_lit 0))), (.int .i64 (.ofNat (nat_lit 0))), (.int .i64 (.ofNat (nat_lit 0))), (.int .i64 (.ofNat (nat_lit 0))), (.int .i64 (.ofNat (nat_lit 0))), (.str (sb [])), (.str (sb [])), (.str (sb [])), (.str (sb [])), (.int .i64 (.ofNat (nat_lit 0))), (.int .i64 (.ofNat (nat_lit 0))), (.int .i64 (.ofNat (nat_lit 0))), (.int .i64 (.ofNat (nat_lit 0))), (.int .i64 (.ofNat (nat_lit 0))), (.int .i64 (.ofNat (nat_lit 0))), (.int .i64 (.ofNat (nat_lit 0))), (.int .i64 (.ofNat (nat_lit 0))), (.bool false)]) true [x20, x60]) fun x61 =>
  bndV (rExt 0 x61) fun x62 =>
  bndV (rExt 1 x61) fun x63 =>
  bndN (rAlloc [(.int .i64 (.ofNat (nat_lit 0))), (.int .i64 (.ofNat (nat_lit 0))), (.int .i64 (.ofNat (nat_lit 0))), (.int .i64 (.ofNat (nat_lit 0))), (.int .i64 (.ofNat (nat_lit 0))), (.int .i64 (.ofNat (nat_lit 0))), (.int .i64 (.ofNat (nat_lit 0))), (.int .i64 (.ofNat (nat_lit 0))), (.str (sb [])), (.str (sb [])), (.str (sb [])), (.str (sb [])), (.int .i64 (.ofNat (nat_lit 0))), (.int .i64 (.ofNat (nat_lit 0))), (.int .i64 (.ofNat (nat_lit 0))), (.int .i64 (.ofNat (nat_lit 0))), (.int .i64 (.ofNat (nat_lit 0))), (.int .i64 (.ofNat (nat_lit 0))), (.int .i64 (.ofNat (nat_lit 0))), (.int .i64 (.ofNat (nat_lit 0))), (.bool false)] []) h fun x18 h =>
  bndE (rSt h 21 x18 x62) h fun _ h =>
  bndV (rNot x63) fun x65 =>
  bndJ ((f155_1 x7 x15 x16 x18 x20 x21 x65 h))
  fun j vs h => unc1 vs fun x7 =>
  some ⟨0, [x7], h⟩)
noncomputable def f155_3 (rc : List V → HT → Option J) (x7 : V) (x14 : V) (x20 : V) (x21 : V) (x27 : V) (x31 : V) (h : HT) : Option J := bndJ (bndV (rBld [(.int .i64 (.ofNat (nat_lit 0))), (.int .i64 (.ofNat (nat_lit 0)))] [(0, 1), (1, 1)] [x31, x14]) fun x48 =>
  bndN (rAlloc [(.int .i64 (.ofNat (nat_lit 0))), (.int .i64 (.ofNat (nat_lit 0)))] []) h fun x15 h =>
  bndE (rSt h 2 x15 x48) h fun _ h =>
  bndV (rLdN h 2 x15) fun x51 =>
  bndC (f227 [x27, x51] h) fun x52 h =>
  bndV (rExt 0 x52) fun x53 =>
  bndV (rExt 1 x52) fun x54 =>
  bndN (rAlloc [(.int .i64 (.ofNat (nat_lit 0))), (.int .i64 (.ofNat (nat_lit 0))), (.int .i64 (.ofNat (nat_lit 0))), (.int .i64 (.ofNat (nat_lit 0))), (.int .i64 (.ofNat (nat_lit 0))), (.int .i64 (.ofNat (nat_lit 0))), (.int .i64 (.ofNat (nat_lit 0))), (.int .i64 (.ofNat (nat_lit 0))), (.str (sb [])), (.str (sb [])), (.str (sb [])), (.str (sb [])), (.int .i64 (.ofNat (nat_lit 0))), (.int .i64 (.ofNat (nat_lit 0))), (.int .i64 (.ofNat (nat_lit 0))), (.int .i64 (.ofNat (nat_lit 0))), (.int .i64 (.ofNat (nat_lit 0))), (.int .i64 (.ofNat (nat_lit 0))), (.int .i64 (.ofNat (nat_lit 0))), (.int .i64 (.ofNat (nat_lit 0))), (.bool false)] []) h fun x16 h =>
  bndE (rSt h 21 x16 x53) h fun _ h =>
  bndV (rFa 0 x16) fun x55 =>
  (f155_2 x7 x15 x16 x20 x21 x55 h))
  fun j vs h => unc1 vs fun x7 =>
  bndV (rAdd x14 (.int .i64 (.ofNat (nat_lit 1)))) fun x45 =>
  rc [x7, x45] h
noncomputable def f155_4 (rc : List V → HT → Option J) (x7 : V) (x12 : V) (x20 : V) (x21 : V) (x27 : V) (x31 : V) (h : HT) : Option J := bndC (f226 [x27] h) fun x35 h =>
  bndV (rIxA 7 1 x35 x31) fun x37 =>
  bndV (rAdd x37 (.int .i64 (.ofNat (nat_lit 1)))) fun x38 =>
  bndJ (loopF (fun rc vs h => unc2 vs fun x7 x14 =>
  bndV (rIaA 7 1 x12 x31) fun x41 =>
  bndV (rLd h x41) fun x42 =>
  bndV (rLeq x14 x42) fun x43 =>
  tstv x43 ((f155_3 rc x7 x14 x20 x21 x27 x31 h))
  (some ⟨0, [x7], h⟩)) 1000000 [x7, x38] h)
  fun j vs h => unc1 vs fun x7 =>
  bndV (rAdd x31 (.int .i64 (.ofNat (nat_lit 1)))) fun x88 =>
  rc [x7, x88] h
noncomputable def f155_5 (rc : List V → HT → Option J) (x0 : V) (x1 : V) (x7 : V) (x20 : V) (x21 : V) (x24 : V) (h : HT) : Option J := bndV (rIaS 1 x0 x24) fun x26 =>
  bndV (rLd h x26) fun x27 =>
  bndC (f14 [x27] h) fun x29 h =>
  bndN (rAlloc [(.int .i64 (.ofNat (nat_lit 0))), (.int .i64 (.ofNat (nat_lit 0))), (.int .i64 (.ofNat (nat_lit 0))), (.int .i64 (.ofNat (nat_lit 0))), (.int .i64 (.ofNat (nat_lit 0))), (.int .i64 (.ofNat (nat_lit 0))), (.int .i64 (.ofNat (nat_lit 0)))] []) h fun x12 h =>
  bndE (rSt h 7 x12 x29) h fun _ h =>
  bndJ (loopF (fun rc vs h => unc2 vs fun x7 x31 =>
  bndV (rLss x31 x1) fun x32 =>
  tstv x32 ((f155_4 rc x7 x12 x20 x21 x27 x31 h))
  (some ⟨0, [x7], h⟩)) 1000000 [x7, (.int .i64 (.ofNat (nat_lit 0)))] h)
  fun j vs h => unc1 vs fun x7 =>
  bndV (rAdd x24 (.int .i64 (.ofNat (nat_lit 1)))) fun x89 =>
  rc [x7, x89] h
noncomputable def f155 (vs : List V) (h : HT) : Option J := unc2 vs fun x0 x1 =>
  bndN (kMkM []) h fun x20 h =>
  bndN (kMkM []) h fun x21 h =>
  bndV (rLenS x0) fun x23 =>
  bndJ (loopF (fun rc vs h => unc2 vs fun x7 x24 =>
  bndV (rLss x24 x23) fun x25 =>
  tstv x25 ((f155_5 rc x0 x1 x7 x20 x21 x24 h))
  (some ⟨0, [x7], h⟩)) 1000000 [(.slice none 0 true 0), (.int .i64 (.ofNat (nat_lit 0)))] h)
  fun j vs h => unc1 vs fun x7 =>
  bndV (kLenM h.heap [x21]) fun x93 =>
  ret1 (.tuple [x7, x20, x93]) h

/- concord/audit.Of -/
noncomputable def l74 : List (Nat × (List V → HT → Option J)) := [(20, f20), (23, f23), (46, f46), (47, f47), (154, f154), (155, f155)]
noncomputable def t74 : Fns := tab l74
noncomputable def f74_0 (rc : List V → HT → Option J) (x7 : V) (x9 : V) (x45 : V) (x67 : V) (x71 : V) (h : HT) : Option J := bndC (gsel x67 true (retV (rLdN h 2 x9) h) h) fun x72 h =>
  bndC (gsel x67 true (noF [x71, x72] h) h) fun x73 h =>
  bndC (gsel x67 true (retV (rNot x73) h) h) fun x74 h =>
  bndV (rPick x67 x74 (.bool false)) fun x75 =>
  bndJ (tstv x75 (bndV (rFa 3 x7) fun x76 =>
  bndV (rLd h x76) fun x77 =>
  bndV (rAdd x77 (.int .i64 (.ofNat (nat_lit 1)))) fun x78 =>
  bndV (rFa 3 x7) fun x79 =>
  bndE (rSt h 1 x79 x78) h fun _ h =>
  some ⟨0, [], h⟩)
  (some ⟨0, [], h⟩))
  fun j vs h => bndV (rAdd x45 (.int .i64 (.ofNat (nat_lit 1)))) fun x80 =>
  rc [x80] h
noncomputable def f74_1 (rc : List V → HT → Option J) (x7 : V) (x9 : V) (x11 : V) (x12 : V) (x13 : V) (x45 : V) (x55 : V) (h : HT) : Option J := bndV (rLdN h 7 x55) fun x56 =>
  bndV (rFa 5 x13) fun x57 =>
  bndV (rLdN h 7 x57) fun x58 =>
  bndC (noF [x56, x58] h) fun x59 h =>
  bndC (gsel x59 true (retV (rFa 12 x12) h) h) fun x61 h =>
  bndC (gsel x59 true (retV (rFa 1 x61) h) h) fun x62 h =>
  bndC (gsel x59 true (retV (rLdN h 7 x62) h) h) fun x63 h =>
  bndC (gsel x59 true (retV (rLdN h 2 x11) h) h) fun x64 h =>
  bndC (gsel x59 true (noF [x63, x64] h) h) fun x65 h =>
  bndC (gsel x59 true (retV (rNot x65) h) h) fun x66 h =>
  bndV (rPick x59 x66 (.bool false)) fun x67 =>
  bndC (gsel x67 true (retV (rFa 12 x13) h) h) fun x69 h =>
  bndC (gsel x67 true (retV (rFa 1 x69) h) h) fun x70 h =>
  bndC (gsel x67 true (retV (rLdN h 7 x70) h) h) fun x71 h =>
  (f74_0 rc x7 x9 x45 x67 x71 h)
noncomputable def f74_2 (rc : List V → HT → Option J) (x7 : V) (x9 : V) (x26 : V) (x45 : V) (x47 : V) (h : HT) : Option J := bndV (rLdN h 2 x47) fun x48 =>
  bndN (rAlloc [(.int .i64 (.ofNat (nat_lit 0))), (.int .i64 (.ofNat (nat_lit 0)))] []) h fun x11 h =>
  bndE (rSt h 2 x11 x48) h fun _ h =>
  bndV (rLdN h 2 x9) fun x50 =>
  bndV (kLkp h.heap true [.i, .i] (.agg [(.int .i64 (.ofNat (nat_lit 0))), (.int .i64 (.ofNat (nat_lit 0))), (.int .i64 (.ofNat (nat_lit 0))), (.int .i64 (.ofNat (nat_lit 0))), (.int .i64 (.ofNat (nat_lit 0))), (.int .i64 (.ofNat (nat_lit 0))), (.int .i64 (.ofNat (nat_lit 0))), (.int .i64 (.ofNat (nat_lit 0))), (.str (sb [])), (.str (sb [])), (.str (sb [])), (.str (sb [])), (.int .i64 (.ofNat (nat_lit 0))), (.int .i64 (.ofNat (nat_lit 0))), (.int .i64 (.ofNat (nat_lit 0))), (.int .i64 (.ofNat (nat_lit 0))), (.int .i64 (.ofNat (nat_lit 0))), (.int .i64 (.ofNat (nat_lit 0))), (.int .i64 (.ofNat (nat_lit 0))), (.int .i64 (.ofNat (nat_lit 0))), (.bool false)]) false [x26, x50]) fun x51 =>
  bndV (rLdN h 2 x11) fun x53 =>
  bndV (kLkp h.heap true [.i, .i] (.agg [(.int .i64 (.ofNat (nat_lit 0))), (.int .i64 (.ofNat (nat_lit 0))), (.int .i64 (.ofNat (nat_lit 0))), (.int .i64 (.ofNat (nat_lit 0))), (.int .i64 (.ofNat (nat_lit 0))), (.int .i64 (.ofNat (nat_lit 0))), (.int .i64 (.ofNat (nat_lit 0))), (.int .i64 (.ofNat (nat_lit 0))), (.str (sb [])), (.str (sb [])), (.str (sb [])), (.str (sb [])), (.int .i64 (.ofNat (nat_lit 0))), (.int .i64 (.ofNat (nat_lit 0))), (.int .i64 (.ofNat (nat_lit 0))), (.int .i64 (.ofNat (nat_lit 0))), (.int .i64 (.ofNat (nat_lit 0))), (.int .i64 (.ofNat (nat_lit 0))), (.int .i64 (.ofNat (nat_lit 0))), (.int .i64 (.ofNat (nat_lit 0))), (.bool false)]) false [x26, x53]) fun x54 =>
  bndN (rAlloc [(.int .i64 (.ofNat (nat_lit 0))), (.int .i64 (.ofNat (nat_lit 0))), (.int .i64 (.ofNat (nat_lit 0))), (.int .i64 (.ofNat (nat_lit 0))), (.int .i64 (.ofNat (nat_lit 0))), (.int .i64 (.ofNat (nat_lit 0))), (.int .i64 (.ofNat (nat_lit 0))), (.int .i64 (.ofNat (nat_lit 0))), (.str (sb [])), (.str (sb [])), (.str (sb [])), (.str (sb [])), (.int .i64 (.ofNat (nat_lit 0))), (.int .i64 (.ofNat (nat_lit 0))), (.int .i64 (.ofNat (nat_lit 0))), (.int .i64 (.ofNat (nat_lit 0))), (.int .i64 (.ofNat (nat_lit 0))), (.int .i64 (.ofNat (nat_lit 0))), (.int .i64 (.ofNat (nat_lit 0))), (.int .i64 (.ofNat (nat_lit 0))), (.bool false)] []) h fun x12 h =>
  bndN (rAlloc [(.int .i64 (.ofNat (nat_lit 0))), (.int .i64 (.ofNat (nat_lit 0))), (.int .i64 (.ofNat (nat_lit 0))), (.int .i64 (.ofNat (nat_lit 0))), (.int .i64 (.ofNat (nat_lit 0))), (.int .i64 (.ofNat (nat_lit 0))), (.int .i64 (.ofNat (nat_lit 0))), (.int .i64 (.ofNat (nat_lit 0))), (.str (sb [])), (.str (sb [])), (.str (sb [])), (.str (sb [])), (.int .i64 (.ofNat (nat_lit 0))), (.int .i64 (.ofNat (nat_lit 0))), (.int .i64 (.ofNat (nat_lit 0))), (.int .i64 (.ofNat (nat_lit 0))), (.int .i64 (.ofNat (nat_lit 0))), (.int .i64 (.ofNat (nat_lit 0))), (.int .i64 (.ofNat (nat_lit 0))), (.int .i64 (.ofNat (nat_lit 0))), (.bool false)] []) h fun x13 h =>
  bndE (rSt h 21 x12 x51) h fun _ h =>
  chk1 (sameE (kLkp h.heap true [.i, .i] (.agg [(.int .i64 (.ofNat (nat_lit 0))), (.int .i64 (.ofNat (nat_lit 0))), (.int .i64 (.ofNat (nat_lit 0))), (.int .i64 (.ofNat (nat_lit 0))), (.int .i64 (.ofNat (nat_lit 0))), (.int .i64 (.ofNat (nat_lit 0))), (.int .i64 (.ofNat (nat_lit 0))), (.int .i64 (.ofNat (nat_lit 0))), (.str (sb [])), (.str (sb [])), (.str (sb [])), (.str (sb [])), (.int .i64 (.ofNat (nat_lit 0))), (.int .i64 (.ofNat (nat_lit 0))), (.int .i64 (.ofNat (nat_lit 0))), (.int .i64 (.ofNat (nat_lit 0))), (.int .i64 (.ofNat (nat_lit 0))), (.int .i64 (.ofNat (nat_lit 0))), (.int .i64 (.ofNat (nat_lit 0))), (.int .i64 (.ofNat (nat_lit 0))), (.bool false)]) false [x26, x53]) x54) (chk1 (sameE (rLdN h 2 x11) x53) (bndE (rSt h 21 x13 x54) h fun _ h =>
  bndV (rFa 5 x12) fun x55 =>
  (f74_1 rc x7 x9 x11 x12 x13 x45 x55 h)))
noncomputable def f74_3 (rc : List V → HT → Option J) (x7 : V) (x25 : V) (x26 : V) (x36 : V) (x39 : V) (h : HT) : Option J := bndV (rLdN h 2 x39) fun x40 =>
  bndN (rAlloc [(.int .i64 (.ofNat (nat_lit 0))), (.int .i64 (.ofNat (nat_lit 0)))] []) h fun x9 h =>
  bndE (rSt h 2 x9 x40) h fun _ h =>
  bndV (kSlS 2 false true [x25, x36]) fun x43 =>
  bndV (rLenS x43) fun x44 =>
  bndJ (loopF (fun rc vs h => unc1 vs fun x45 =>
  bndV (rLss x45 x44) fun x46 =>
  tstv x46 (bndV (rIaS 2 x43 x45) fun x47 =>
  (f74_2 rc x7 x9 x26 x45 x47 h))
  (some ⟨0, [], h⟩)) 1000000 [(.int .i64 (.ofNat (nat_lit 0)))] h)
  fun j vs h => bndV (rAdd x36 (.int .i64 (.ofNat (nat_lit 1)))) fun x81 =>
  rc [x81] h
noncomputable def f74_4 (rc : List V → HT → Option J) (x7 : V) (x93 : V) (x101 : V) (x104 : V) (x105 : V) (h : HT) : Option J := bndC (gsel x101 true (f47 [x105] h) h) fun x106 h =>
  bndC (gsel x101 true (f46 [x104, x106] h) h) fun x107 h =>
  bndC (gsel x101 true (retV (rNot x107) h) h) fun x108 h =>
  bndV (rPick x101 x108 (.bool false)) fun x109 =>
  bndJ (tstv x109 (bndV (rFa 4 x7) fun x110 =>
  bndV (rLd h x110) fun x111 =>
  bndV (rAdd x111 (.int .i64 (.ofNat (nat_lit 1)))) fun x112 =>
  bndV (rFa 4 x7) fun x113 =>
  bndE (rSt h 1 x113 x112) h fun _ h =>
  some ⟨0, [], h⟩)
  (some ⟨0, [], h⟩))
  fun j vs h => bndV (rAdd x93 (.int .i64 (.ofNat (nat_lit 1)))) fun x114 =>
  rc [x114] h
noncomputable def f74_5 (rc : List V → HT → Option J) (x7 : V) (x84 : V) (x88 : V) (x91 : V) (x92 : V) (h : HT) : Option J := bndJ (loopF (fun rc vs h => unc1 vs fun x93 =>
  bndV (rLss x93 x92) fun x94 =>
  tstv x94 (bndV (rIaS 1 x91 x93) fun x95 =>
  bndV (rLd h x95) fun x96 =>
  bndC (f23 [x88] h) fun x98 h =>
  bndC (f23 [x96] h) fun x100 h =>
  bndV (kEqF false [.i, .i, .i, .i, .i, .i, .i] [x98, x100]) fun x101 =>
  bndC (gsel x101 true (retV (kMov [x88]) h) h) fun x103 h =>
  bndC (gsel x101 true (f47 [x103] h) h) fun x104 h =>
  bndC (gsel x101 true (retV (kMov [x96]) h) h) fun x105 h =>
  (f74_4 rc x7 x93 x101 x104 x105 h))
  (some ⟨0, [], h⟩)) 1000000 [(.int .i64 (.ofNat (nat_lit 0)))] h)
  fun j vs h => bndV (rAdd x84 (.int .i64 (.ofNat (nat_lit 1)))) fun x115 =>
  rc [x115] h
noncomputable def f74_6 (x2 : V) (x7 : V) (x19 : V) (x83 : V) (h : HT) : Option J := bndJ (loopF (fun rc vs h => unc1 vs fun x84 =>
  bndV (rLss x84 x83) fun x85 =>
  tstv x85 (bndV (rIaS 1 x19 x84) fun x87 =>
  bndV (rLd h x87) fun x88 =>
  bndV (kSlS 1 false true [x19, x84]) fun x91 =>
  bndV (rLenS x91) fun x92 =>
  (f74_5 rc x7 x84 x88 x91 x92 h))
  (some ⟨0, [], h⟩)) 1000000 [(.int .i64 (.ofNat (nat_lit 0)))] h)
  fun j vs h => bndV (rLdN h 5 x7) fun x116 =>
  bndE (rSt h 5 x2 x116) h fun _ h =>
  bndV (qLd h (some 5) [x2]) fun x900000 =>
  ret1 x900000 h
noncomputable def f74_7 (x2 : V) (x19 : V) (x25 : V) (x26 : V) (x27 : V) (x29 : V) (h : HT) : Option J := bndV (rLenS x25) fun x31 =>
  bndV (rBld [(.int .i64 (.ofNat (nat_lit 0))), (.int .i64 (.ofNat (nat_lit 0))), (.int .i64 (.ofNat (nat_lit 0))), (.int .i64 (.ofNat (nat_lit 0))), (.int .i64 (.ofNat (nat_lit 0)))] [(0, 1), (1, 1), (2, 1)] [x29, x31, x27]) fun x33 =>
  bndN (rAlloc [(.int .i64 (.ofNat (nat_lit 0))), (.int .i64 (.ofNat (nat_lit 0))), (.int .i64 (.ofNat (nat_lit 0))), (.int .i64 (.ofNat (nat_lit 0))), (.int .i64 (.ofNat (nat_lit 0)))] []) h fun x7 h =>
  bndE (rSt h 5 x7 x33) h fun _ h =>
  bndV (rLenS x25) fun x35 =>
  bndJ (loopF (fun rc vs h => unc1 vs fun x36 =>
  bndV (rLss x36 x35) fun x37 =>
  tstv x37 (bndV (rIaS 2 x25 x36) fun x39 =>
  (f74_3 rc x7 x25 x26 x36 x39 h))
  (some ⟨0, [], h⟩)) 1000000 [(.int .i64 (.ofNat (nat_lit 0)))] h)
  fun j vs h => bndV (rLenS x19) fun x83 =>
  (f74_6 x2 x7 x19 x83 h)
noncomputable def f74 (vs : List V) (h : HT) : Option J := unc1 vs fun x0 =>
  bndN (rAlloc [(.int .i64 (.ofNat (nat_lit 0))), (.int .i64 (.ofNat (nat_lit 0))), (.int .i64 (.ofNat (nat_lit 0))), (.int .i64 (.ofNat (nat_lit 0))), (.int .i64 (.ofNat (nat_lit 0)))] []) h fun x2 h =>
  bndC (f154 [x0] h) fun x19 h =>
  bndC (f20 [x0] h) fun x23 h =>
  bndC (f155 [x19, x23] h) fun x24 h =>
  bndV (rExt 0 x24) fun x25 =>
  bndV (rExt 1 x24) fun x26 =>
  bndV (rExt 2 x24) fun x27 =>
  bndV (rLenS x19) fun x29 =>
  (f74_7 x2 x19 x25 x26 x27 x29 h)

/- concord/concordlaw28.AuditRuns -/
noncomputable def l31 : List (Nat × (List V → HT → Option J)) := [(18, f18), (21, f21), (30, f30), (74, f74)]
noncomputable def t31 : Fns := tab l31
noncomputable def f31_0 (x3 : V) (x5 : V) (h : HT) : Option J := bndV (rLdN h 5 x3) fun x33 =>
  bndV (rBld [(.int .i64 (.ofNat (nat_lit 0))), (.int .i64 (.ofNat (nat_lit 0))), (.int .i64 (.ofNat (nat_lit 0))), (.int .i64 (.ofNat (nat_lit 0))), (.int .i64 (.ofNat (nat_lit 0)))] [(0, 1)] [(.int .i64 (.ofNat (nat_lit 3)))]) fun x34 =>
  bndV (kEqF false [.i, .i, .i, .i, .i] [x33, x34]) fun x35 =>
  bndC (gsel x35 true (retV (rLdN h 5 x5) h) h) fun x37 h =>
  bndC (gsel x35 true (retV (rBld [(.int .i64 (.ofNat (nat_lit 0))), (.int .i64 (.ofNat (nat_lit 0))), (.int .i64 (.ofNat (nat_lit 0))), (.int .i64 (.ofNat (nat_lit 0))), (.int .i64 (.ofNat (nat_lit 0)))] [(0, 1), (1, 1)] [(.int .i64 (.ofNat (nat_lit 3))), (.int .i64 (.ofNat (nat_lit 1)))]) h) h) fun x38 h =>
  bndC (gsel x35 true (retV (kEqF false [.i, .i, .i, .i, .i] [x37, x38]) h) h) fun x39 h =>
  bndV (rPick x35 x39 (.bool false)) fun x40 =>
  bndC (gsel x40 true (retV (rLdN h 5 x5) h) h) fun x42 h =>
  bndC (gsel x40 true (f30 [x42] h) h) fun x43 h =>
  bndV (rPick x40 x43 (.bool false)) fun x44 =>
  bndC (gsel x44 true (retV (rBld [(.int .i64 (.ofNat (nat_lit 0))), (.int .i64 (.ofNat (nat_lit 0))), (.int .i64 (.ofNat (nat_lit 0))), (.int .i64 (.ofNat (nat_lit 0))), (.int .i64 (.ofNat (nat_lit 0)))] [(3, 1)] [(.int .i64 (.ofNat (nat_lit 1)))]) h) h) fun x46 h =>
  bndC (gsel x44 true (f30 [x46] h) h) fun x47 h =>
  bndC (gsel x44 true (retV (rNot x47) h) h) fun x48 h =>
  bndV (rPick x44 x48 (.bool false)) fun x49 =>
  ret1 x49 h
noncomputable def f31_1 (x3 : V) (x8 : V) (h : HT) : Option J := bndJ (loopF (fun rc vs h => unc1 vs fun x4 =>
  bndV (rLss x4 (.int .i64 (.ofNat (nat_lit 100)))) fun x23 =>
  bndC (gsel x23 true (retV (kMov [x8]) h) h) fun x25 h =>
  bndC (gsel x23 true (retV (rBld [(.int .i64 (.ofNat (nat_lit 0))), (.int .i64 (.ofNat (nat_lit 0))), (.int .i64 (.ofNat (nat_lit 0))), (.int .i64 (.ofNat (nat_lit 0))), (.int .i64 (.ofNat (nat_lit 0))), (.int .i64 (.ofNat (nat_lit 0))), (.int .i64 (.ofNat (nat_lit 0))), (.str (sb [])), (.str (sb [])), (.str (sb [])), (.str (sb [])), (.slice none 0 true 0)] [(0, 1)] [(.int .i64 (.ofNat (nat_lit 2)))]) h) h) fun x26 h =>
  bndC (gsel x23 true (f21 [x25, x26] h) h) fun x27 h =>
  bndV (rPick x23 x27 (.bool false)) fun x28 =>
  tstv x28 (bndV (rAdd x4 (.int .i64 (.ofNat (nat_lit 1)))) fun x30 =>
  rc [x30] h)
  (some ⟨0, [], h⟩)) 1000000 [(.int .i64 (.ofNat (nat_lit 0)))] h)
  fun j vs h => bndC (f74 [x8] h) fun x32 h =>
  bndN (rAlloc [(.int .i64 (.ofNat (nat_lit 0))), (.int .i64 (.ofNat (nat_lit 0))), (.int .i64 (.ofNat (nat_lit 0))), (.int .i64 (.ofNat (nat_lit 0))), (.int .i64 (.ofNat (nat_lit 0)))] []) h fun x5 h =>
  bndE (rSt h 5 x5 x32) h fun _ h =>
  (f31_0 x3 x5 h)
noncomputable def f31_2 (x7 : V) (h : HT) : Option J := bndV (rExt 0 x7) fun x8 =>
  bndV (rExt 1 x7) fun x9 =>
  bndV (kEqN false [x8, (.ptr none)]) fun x11 =>
  bndC (gsel x11 false (retV (kMov [x9]) h) h) fun x13 h =>
  bndC (gsel x11 false (retV (rNeq x13 (.int .i64 (.ofNat (nat_lit 0)))) h) h) fun x14 h =>
  bndV (rPick x11 (.bool true) x14) fun x15 =>
  tstv x15 (ret1 (.bool false) h)
  (bndC (f74 [x8] h) fun x17 h =>
  bndN (rAlloc [(.int .i64 (.ofNat (nat_lit 0))), (.int .i64 (.ofNat (nat_lit 0))), (.int .i64 (.ofNat (nat_lit 0))), (.int .i64 (.ofNat (nat_lit 0))), (.int .i64 (.ofNat (nat_lit 0)))] []) h fun x3 h =>
  bndE (rSt h 5 x3 x17) h fun _ h =>
  bndV (rBld [(.int .i64 (.ofNat (nat_lit 0))), (.int .i64 (.ofNat (nat_lit 0))), (.int .i64 (.ofNat (nat_lit 0))), (.str (sb [])), (.str (sb [])), (.str (sb [])), (.str (sb []))] [(0, 1), (3, 1)] [(.int .i64 (.ofNat (nat_lit 2))), (.str (sb [97]))]) fun x19 =>
  bndV (rBld [(.int .i64 (.ofNat (nat_lit 0))), (.int .i64 (.ofNat (nat_lit 0))), (.int .i64 (.ofNat (nat_lit 0))), (.int .i64 (.ofNat (nat_lit 0))), (.int .i64 (.ofNat (nat_lit 0))), (.int .i64 (.ofNat (nat_lit 0))), (.int .i64 (.ofNat (nat_lit 0))), (.str (sb [])), (.str (sb [])), (.str (sb [])), (.str (sb [])), (.slice none 0 true 0)] [(0, 1), (3, 1), (4, 7)] [(.int .i64 (.ofNat (nat_lit 1))), (.int .i64 (.ofNat (nat_lit 1))), x19]) fun x20 =>
  bndC (f21 [x8, x20] h) fun x21 h =>
  (f31_1 x3 x8 h))
noncomputable def f31 (vs : List V) (h : HT) : Option J := bndC (f18 [(.int .i64 (.ofNat (nat_lit 3)))] h) fun x7 h =>
  (f31_2 x7 h)

/- (*concord/node.Node).Bad -/
noncomputable def l153 : List (Nat × (List V → HT → Option J)) := []
noncomputable def t153 : Fns := tab l153

noncomputable def f153 (vs : List V) (h : HT) : Option J := unc1 vs fun x0 =>
  bndV (rNilc x0) fun x4 =>
  bndV (rFa 74 x4) fun x5 =>
  bndV (rLd h x5) fun x6 =>
  ret1 x6 h

/- concord/calm.Start -/
noncomputable def l72 : List (Nat × (List V → HT → Option J)) := [(20, f20), (21, f21), (22, f22), (153, f153)]
noncomputable def t72 : Fns := tab l72
noncomputable def f72_0 (rc : List V → HT → Option J) (x0 : V) (x6 : V) (x11 : V) (x13 : V) (h : HT) : Option J := bndC (gsel x13 true (retV (kMov [x11]) h) h) fun x15 h =>
  bndC (gsel x13 true (f153 [x15] h) h) fun x16 h =>
  bndV (rPick x13 x16 (.bool false)) fun x17 =>
  bndJ (tstv x17 (bndV (rBld [(.int .i64 (.ofNat (nat_lit 0))), (.int .i64 (.ofNat (nat_lit 0))), (.int .i64 (.ofNat (nat_lit 0))), (.int .i64 (.ofNat (nat_lit 0))), (.int .i64 (.ofNat (nat_lit 0))), (.int .i64 (.ofNat (nat_lit 0))), (.int .i64 (.ofNat (nat_lit 0))), (.str (sb [])), (.str (sb [])), (.str (sb [])), (.str (sb [])), (.slice none 0 true 0)] [(0, 1), (1, 1)] [(.int .i64 (.ofNat (nat_lit 8))), x6]) fun x20 =>
  bndC (f21 [x0, x20] h) fun x21 h =>
  some ⟨0, [], h⟩)
  (some ⟨0, [], h⟩))
  fun j vs h => bndV (rBld [(.int .i64 (.ofNat (nat_lit 0))), (.int .i64 (.ofNat (nat_lit 0))), (.int .i64 (.ofNat (nat_lit 0))), (.int .i64 (.ofNat (nat_lit 0))), (.int .i64 (.ofNat (nat_lit 0))), (.int .i64 (.ofNat (nat_lit 0))), (.int .i64 (.ofNat (nat_lit 0))), (.str (sb [])), (.str (sb [])), (.str (sb [])), (.str (sb [])), (.slice none 0 true 0)] [(0, 1), (1, 1), (2, 1)] [(.int .i64 (.ofNat (nat_lit 7))), x6, (.int .i64 (.negSucc (nat_lit 0)))]) fun x24 =>
  bndC (f21 [x0, x24] h) fun x25 h =>
  bndV (rBld [(.int .i64 (.ofNat (nat_lit 0))), (.int .i64 (.ofNat (nat_lit 0))), (.int .i64 (.ofNat (nat_lit 0))), (.int .i64 (.ofNat (nat_lit 0))), (.int .i64 (.ofNat (nat_lit 0))), (.int .i64 (.ofNat (nat_lit 0))), (.int .i64 (.ofNat (nat_lit 0))), (.str (sb [])), (.str (sb [])), (.str (sb [])), (.str (sb [])), (.slice none 0 true 0)] [(0, 1), (1, 1)] [(.int .i64 (.ofNat (nat_lit 9))), x6]) fun x28 =>
  bndC (f21 [x0, x28] h) fun x29 h =>
  bndV (rAdd x6 (.int .i64 (.ofNat (nat_lit 1)))) fun x30 =>
  rc [x30] h
noncomputable def f72 (vs : List V) (h : HT) : Option J := unc1 vs fun x0 =>
  bndC (f20 [x0] h) fun x5 h =>
  bndJ (loopF (fun rc vs h => unc1 vs fun x6 =>
  bndV (rLss x6 x5) fun x7 =>
  tstv x7 (bndC (f22 [x0, x6] h) fun x11 h =>
  bndV (kEqN true [x11, (.ptr none)]) fun x13 =>
  (f72_0 rc x0 x6 x11 x13 h))
  (some ⟨0, [], h⟩)) 1000000 [(.int .i64 (.ofNat (nat_lit 0)))] h)
  fun j vs h => ret1 (.tuple []) h

/- concord/calm.Round -/
noncomputable def l73 : List (Nat × (List V → HT → Option J)) := [(20, f20), (21, f21)]
noncomputable def t73 : Fns := tab l73
noncomputable def f73_0 (x0 : V) (h : HT) : Option J := bndJ (loopF (fun rc vs h => unc1 vs fun x14 =>
  bndV (rLss x14 (.int .i64 (.ofNat (nat_lit 20000)))) fun x15 =>
  tstv x15 (bndV (rBld [(.int .i64 (.ofNat (nat_lit 0))), (.int .i64 (.ofNat (nat_lit 0))), (.int .i64 (.ofNat (nat_lit 0))), (.int .i64 (.ofNat (nat_lit 0))), (.int .i64 (.ofNat (nat_lit 0))), (.int .i64 (.ofNat (nat_lit 0))), (.int .i64 (.ofNat (nat_lit 0))), (.str (sb [])), (.str (sb [])), (.str (sb [])), (.str (sb [])), (.slice none 0 true 0)] [(0, 1)] [(.int .i64 (.ofNat (nat_lit 2)))]) fun x17 =>
  bndC (f21 [x0, x17] h) fun x18 h =>
  bndV (rNot x18) fun x19 =>
  tstv x19 (some ⟨0, [], h⟩)
  (bndV (rAdd x14 (.int .i64 (.ofNat (nat_lit 1)))) fun x20 =>
  rc [x20] h))
  (some ⟨0, [], h⟩)) 1000000 [(.int .i64 (.ofNat (nat_lit 0)))] h)
  fun j vs h => bndJ (loopF (fun rc vs h => unc1 vs fun x3 =>
  bndV (rLeq x3 (.int .i64 (.ofNat (nat_lit 8)))) fun x22 =>
  tstv x22 (bndV (rBld [(.int .i64 (.ofNat (nat_lit 0))), (.int .i64 (.ofNat (nat_lit 0))), (.int .i64 (.ofNat (nat_lit 0))), (.int .i64 (.ofNat (nat_lit 0))), (.int .i64 (.ofNat (nat_lit 0))), (.int .i64 (.ofNat (nat_lit 0))), (.int .i64 (.ofNat (nat_lit 0))), (.str (sb [])), (.str (sb [])), (.str (sb [])), (.str (sb [])), (.slice none 0 true 0)] [(0, 1), (1, 1)] [(.int .i64 (.ofNat (nat_lit 6))), x3]) fun x27 =>
  bndC (f21 [x0, x27] h) fun x28 h =>
  bndV (rAdd x3 (.int .i64 (.ofNat (nat_lit 1)))) fun x24 =>
  rc [x24] h)
  (some ⟨0, [], h⟩)) 1000000 [(.int .i64 (.ofNat (nat_lit 1)))] h)
  fun j vs h => ret1 (.tuple []) h
noncomputable def f73 (vs : List V) (h : HT) : Option J := unc1 vs fun x0 =>
  bndC (f20 [x0] h) fun x5 h =>
  bndJ (loopF (fun rc vs h => unc1 vs fun x6 =>
  bndV (rLss x6 x5) fun x7 =>
  tstv x7 (bndV (rBld [(.int .i64 (.ofNat (nat_lit 0))), (.int .i64 (.ofNat (nat_lit 0))), (.int .i64 (.ofNat (nat_lit 0))), (.int .i64 (.ofNat (nat_lit 0))), (.int .i64 (.ofNat (nat_lit 0))), (.int .i64 (.ofNat (nat_lit 0))), (.int .i64 (.ofNat (nat_lit 0))), (.str (sb [])), (.str (sb [])), (.str (sb [])), (.str (sb [])), (.slice none 0 true 0)] [(0, 1), (1, 1)] [(.int .i64 (.ofNat (nat_lit 5))), x6]) fun x11 =>
  bndC (f21 [x0, x11] h) fun x12 h =>
  bndV (rAdd x6 (.int .i64 (.ofNat (nat_lit 1)))) fun x13 =>
  rc [x13] h)
  (some ⟨0, [], h⟩)) 1000000 [(.int .i64 (.ofNat (nat_lit 0)))] h)
  fun j vs h => (f73_0 x0 h)

/- concord/calm.Waiting -/
noncomputable def l29 : List (Nat × (List V → HT → Option J)) := [(71, f71)]
noncomputable def t29 : Fns := tab l29
noncomputable def f29_0 (x0 : V) (h : HT) : Option J := bndJ (loopF (fun rc vs h => unc2 vs fun x3 x4 =>
  bndV (rLeq x4 (.int .i64 (.ofNat (nat_lit 8)))) fun x6 =>
  tstv x6 (bndC (f71 [x0, x4] h) fun x11 h =>
  bndJ (tstv x11 (bndV (rAdd x3 (.int .i64 (.ofNat (nat_lit 1)))) fun x13 =>
  some ⟨0, [x13], h⟩)
  (some ⟨0, [x3], h⟩))
  fun j vs h => unc1 vs fun x3 =>
  bndV (rAdd x4 (.int .i64 (.ofNat (nat_lit 1)))) fun x8 =>
  rc [x3, x8] h)
  (some ⟨0, [x3], h⟩)) 1000000 [(.int .i64 (.ofNat (nat_lit 0))), (.int .i64 (.ofNat (nat_lit 1)))] h)
  fun j vs h => unc1 vs fun x3 =>
  ret1 x3 h
noncomputable def f29 (vs : List V) (h : HT) : Option J := unc1 vs fun x0 =>
  (f29_0 x0 h)

/- (*concord/cluster.Cluster).Run -/
noncomputable def l27 : List (Nat × (List V → HT → Option J)) := [(21, f21)]
noncomputable def t27 : Fns := tab l27
noncomputable def f27_0 (rc : List V → HT → Option J) (x0 : V) (x1 : V) (x5 : V) (x10 : V) (x11 : V) (h : HT) : Option J := tstv x11 (bndV (rIaS 12 x1 x10) fun x12 =>
  bndV (rLdN h 12 x12) fun x13 =>
  bndN (rAlloc [(.int .i64 (.ofNat (nat_lit 0))), (.int .i64 (.ofNat (nat_lit 0))), (.int .i64 (.ofNat (nat_lit 0))), (.int .i64 (.ofNat (nat_lit 0))), (.int .i64 (.ofNat (nat_lit 0))), (.int .i64 (.ofNat (nat_lit 0))), (.int .i64 (.ofNat (nat_lit 0))), (.str (sb [])), (.str (sb [])), (.str (sb [])), (.str (sb [])), (.slice none 0 true 0)] []) h fun x7 h =>
  bndE (rSt h 12 x7 x13) h fun _ h =>
  bndV (rLdN h 12 x7) fun x15 =>
  bndC (f21 [x0, x15] h) fun x16 h =>
  bndJ (tstv x16 (bndV (rAdd x5 (.int .i64 (.ofNat (nat_lit 1)))) fun x18 =>
  some ⟨0, [x18], h⟩)
  (some ⟨0, [x5], h⟩))
  fun j vs h => unc1 vs fun x5 =>
  bndV (rAdd x10 (.int .i64 (.ofNat (nat_lit 1)))) fun x19 =>
  rc [x5, x19] h)
  (some ⟨0, [x5], h⟩)
noncomputable def f27 (vs : List V) (h : HT) : Option J := unc2 vs fun x0 x1 =>
  bndV (rLenS x1) fun x9 =>
  bndJ (loopF (fun rc vs h => unc2 vs fun x5 x10 =>
  bndV (rLss x10 x9) fun x11 =>
  (f27_0 rc x0 x1 x5 x10 x11 h)) 1000000 [(.int .i64 (.ofNat (nat_lit 0))), (.int .i64 (.ofNat (nat_lit 0)))] h)
  fun j vs h => unc1 vs fun x5 =>
  ret1 x5 h
end Go.Cn
