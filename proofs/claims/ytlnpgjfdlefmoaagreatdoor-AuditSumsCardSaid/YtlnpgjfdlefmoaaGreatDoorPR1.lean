/- Functions of the program, told as plain functions of what they are called with (printed by a program of the prover). -/
import Derived.Test.YtlnpgjfdlefmoaaGreatDoorPR0
namespace Go.Cn
set_option maxRecDepth 100000
set_option linter.unusedVariables false
/- slices.stableCmpFunc[int] -/
noncomputable def l379 : List (Nat × (List V → HT → Option J)) := [(394, f394)]
noncomputable def t379 : Fns := tab l379
noncomputable def f379_0 (rc : List V → HT → Option J) (x0 : V) (x1 : V) (x2 : V) (x6 : V) (x32 : V) (h : HT) : Option J := bndJ (loopF (fun rc vs h => unc2 vs fun x7_1 x8 =>
  bndV (rLeq x8 x1) fun x35 =>
  tstv x35 (bndV (rAdd x7_1 x6) fun x40 =>
  bndC (noF [x0, x7_1, x40, x8, x2] h) fun x43 h =>
  bndV (qBin .mul [(.int .i64 (.ofNat (nat_lit 2))), x6]) fun x47 =>
  bndV (rAdd x8 x47) fun x48 =>
  rc [x8, x48] h)
  (some ⟨0, [x7_1], h⟩)) 1000000 [(.int .i64 (.ofNat (nat_lit 0))), x32] h)
  fun j vs h => unc1 vs fun x7_1 =>
  bndV (rAdd x7_1 x6) fun x51 =>
  bndV (rLss x51 x1) fun x54 =>
  bndJ (tstv x54 (bndC (noF [x0, x7_1, x51, x1, x2] h) fun x60 h =>
  some ⟨0, [], h⟩)
  (some ⟨0, [], h⟩))
  fun j vs h => bndV (qBin .mul [x6, (.int .i64 (.ofNat (nat_lit 2)))]) fun x62 =>
  rc [x62] h
noncomputable def f379_1 (x0 : V) (x1 : V) (x2 : V) (h : HT) : Option J := bndJ (loopF (fun rc vs h => unc2 vs fun x7 x8 =>
  bndV (rLeq x8 x1) fun x13 =>
  tstv x13 (bndC (f394 [x0, x7, x8, x2] h) fun x18 h =>
  bndV (rAdd x8 (.int .i64 (.ofNat (nat_lit 20)))) fun x22 =>
  rc [x8, x22] h)
  (some ⟨0, [x7], h⟩)) 1000000 [(.int .i64 (.ofNat (nat_lit 0))), (.int .i64 (.ofNat (nat_lit 20)))] h)
  fun j vs h => unc1 vs fun x7 =>
  bndC (f394 [x0, x7, x1, x2] h) fun x27 h =>
  bndJ (loopF (fun rc vs h => unc1 vs fun x6 =>
  bndV (rLss x6 x1) fun x30 =>
  tstv x30 (bndV (qBin .mul [(.int .i64 (.ofNat (nat_lit 2))), x6]) fun x32 =>
  (f379_0 rc x0 x1 x2 x6 x32 h))
  (some ⟨0, [], h⟩)) 1000000 [(.int .i64 (.ofNat (nat_lit 20)))] h)
  fun j vs h => ret1 (.tuple []) h
noncomputable def f379 (vs : List V) (h : HT) : Option J := unc3 vs fun x0 x1 x2 =>
  (f379_1 x0 x1 x2 h)

/- slices.SortStableFunc[[]int,int] -/
noncomputable def l352 : List (Nat × (List V → HT → Option J)) := [(379, f379)]
noncomputable def t352 : Fns := tab l352

noncomputable def f352 (vs : List V) (h : HT) : Option J := unc2 vs fun x0 x1 =>
  bndV (rLenS x0) fun x6 =>
  bndC (f379 [x0, x6, x1] h) fun x8 h =>
  ret1 (.tuple []) h

/- (*concord/exec.plan).do -/
noncomputable def l309 : List (Nat × (List V → HT → Option J)) := [(270, f270), (350, f350), (351, f351), (352, f352)]
noncomputable def t309 : Fns := tab l309
noncomputable def f309_0 (rc : List V → HT → Option J) (x10 : V) (x31 : V) (x56 : V) (x58 : V) (x59 : V) (h : HT) : Option J := bndV (rFa 0 x10) fun x60 =>
  bndV (rLd h x60) fun x61 =>
  bndV (rNilc x59) fun x62 =>
  bndV (rFa 0 x62) fun x63 =>
  bndV (rIaA 7 1 x63 x61) fun x64 =>
  bndV (rLd h x64) fun x65 =>
  bndV (rFa 1 x10) fun x66 =>
  bndV (rLd h x66) fun x67 =>
  bndV (rMax x65 x67) fun x68 =>
  bndV (rNilc x56) fun x69 =>
  bndV (rFa 0 x69) fun x70 =>
  bndV (rIaA 7 1 x70 x58) fun x71 =>
  bndE (rSt h 1 x71 x68) h fun _ h =>
  bndV (rAdd x31 (.int .i64 (.ofNat (nat_lit 1)))) fun x72 =>
  rc [x72] h
noncomputable def f309_1 (rc : List V → HT → Option J) (x2 : V) (x10 : V) (x31 : V) (x39 : V) (x43 : V) (x44 : V) (x47 : V) (h : HT) : Option J := bndV (rLd h x47) fun x48 =>
  bndV (rLdN h 2 x10) fun x49 =>
  bndV (kLkp h.heap true [.i, .i] (.agg [(.int .i64 (.ofNat (nat_lit 0))), (.int .i64 (.ofNat (nat_lit 0))), (.int .i64 (.ofNat (nat_lit 0))), (.int .i64 (.ofNat (nat_lit 0))), (.int .i64 (.ofNat (nat_lit 0))), (.int .i64 (.ofNat (nat_lit 0))), (.int .i64 (.ofNat (nat_lit 0))), (.int .i64 (.ofNat (nat_lit 0))), (.str (sb [])), (.str (sb [])), (.str (sb [])), (.str (sb [])), (.int .i64 (.ofNat (nat_lit 0))), (.int .i64 (.ofNat (nat_lit 0))), (.int .i64 (.ofNat (nat_lit 0))), (.int .i64 (.ofNat (nat_lit 0))), (.int .i64 (.ofNat (nat_lit 0))), (.int .i64 (.ofNat (nat_lit 0))), (.int .i64 (.ofNat (nat_lit 0))), (.int .i64 (.ofNat (nat_lit 0))), (.bool false)]) false [x48, x49]) fun x50 =>
  bndV (rBld [(.int .i64 (.ofNat (nat_lit 0))), (.int .i64 (.ofNat (nat_lit 0))), (.int .i64 (.ofNat (nat_lit 0))), (.int .i64 (.ofNat (nat_lit 0))), (.int .i64 (.ofNat (nat_lit 0))), (.int .i64 (.ofNat (nat_lit 0))), (.int .i64 (.ofNat (nat_lit 0))), (.int .i64 (.ofNat (nat_lit 0))), (.int .i64 (.ofNat (nat_lit 0))), (.int .i64 (.ofNat (nat_lit 0))), (.str (sb [])), (.str (sb [])), (.str (sb [])), (.str (sb [])), (.int .i64 (.ofNat (nat_lit 0))), (.int .i64 (.ofNat (nat_lit 0))), (.int .i64 (.ofNat (nat_lit 0))), (.int .i64 (.ofNat (nat_lit 0))), (.int .i64 (.ofNat (nat_lit 0))), (.int .i64 (.ofNat (nat_lit 0))), (.int .i64 (.ofNat (nat_lit 0))), (.int .i64 (.ofNat (nat_lit 0))), (.bool false)] [(0, 2), (2, 21)] [x44, x50]) fun x51 =>
  bndN (rBsl 23 1 [(.int .i64 (.ofNat (nat_lit 0))), (.int .i64 (.ofNat (nat_lit 0))), (.int .i64 (.ofNat (nat_lit 0))), (.int .i64 (.ofNat (nat_lit 0))), (.int .i64 (.ofNat (nat_lit 0))), (.int .i64 (.ofNat (nat_lit 0))), (.int .i64 (.ofNat (nat_lit 0))), (.int .i64 (.ofNat (nat_lit 0))), (.int .i64 (.ofNat (nat_lit 0))), (.int .i64 (.ofNat (nat_lit 0))), (.str (sb [])), (.str (sb [])), (.str (sb [])), (.str (sb [])), (.int .i64 (.ofNat (nat_lit 0))), (.int .i64 (.ofNat (nat_lit 0))), (.int .i64 (.ofNat (nat_lit 0))), (.int .i64 (.ofNat (nat_lit 0))), (.int .i64 (.ofNat (nat_lit 0))), (.int .i64 (.ofNat (nat_lit 0))), (.int .i64 (.ofNat (nat_lit 0))), (.int .i64 (.ofNat (nat_lit 0))), (.bool false)] [(0, 23)] [x51]) h fun x52 h =>
  bndE (dApp h 23 216 [x43, x52]) h fun x53 h =>
  chk1 (sameE (rLd h x2) x39) (bndV (rNilc x39) fun x54 =>
  bndV (rFa 8 x54) fun x55 =>
  bndE (rSt h 1 x55 x53) h fun _ h =>
  bndV (rLd h x2) fun x56 =>
  bndV (rFa 0 x10) fun x57 =>
  bndV (rLd h x57) fun x58 =>
  bndV (rLd h x2) fun x59 =>
  (f309_0 rc x10 x31 x56 x58 x59 h))
noncomputable def f309_2 (rc : List V → HT → Option J) (x2 : V) (x3 : V) (x31 : V) (x34 : V) (h : HT) : Option J := bndV (rLd h x3) fun x35 =>
  bndV (rIaS 2 x35 x34) fun x37 =>
  bndV (rLdN h 2 x37) fun x38 =>
  bndN (rAlloc [(.int .i64 (.ofNat (nat_lit 0))), (.int .i64 (.ofNat (nat_lit 0)))] []) h fun x10 h =>
  bndE (rSt h 2 x10 x38) h fun _ h =>
  bndV (rLd h x2) fun x39 =>
  bndV (rLd h x2) fun x40 =>
  bndV (rNilc x40) fun x41 =>
  bndV (rFa 8 x41) fun x42 =>
  bndV (rLd h x42) fun x43 =>
  bndV (rLdN h 2 x10) fun x44 =>
  bndV (rLd h x2) fun x45 =>
  bndV (rNilc x45) fun x46 =>
  bndV (rFa 7 x46) fun x47 =>
  (f309_1 rc x2 x10 x31 x39 x43 x44 x47 h)
noncomputable def f309_3 (rc : List V → HT → Option J) (x2 : V) (x3 : V) (x22 : V) (x24 : V) (h : HT) : Option J := bndV (rLd h x24) fun x25 =>
  bndV (kMkF 353 [x2, x3]) fun x27 =>
  bndC (f352 [x25, x27] h) fun x28 h =>
  bndV (rLenS x25) fun x30 =>
  bndJ (loopF (fun rc vs h => unc1 vs fun x31 =>
  bndV (rLss x31 x30) fun x32 =>
  tstv x32 (bndV (rIaS 1 x25 x31) fun x33 =>
  bndV (rLd h x33) fun x34 =>
  (f309_2 rc x2 x3 x31 x34 h))
  (some ⟨0, [], h⟩)) 1000000 [(.int .i64 (.ofNat (nat_lit 0)))] h)
  fun j vs h => bndV (rAdd x22 (.int .i64 (.ofNat (nat_lit 1)))) fun x73 =>
  rc [x73] h
noncomputable def f309_4 (x2 : V) (x3 : V) (x14 : V) (h : HT) : Option J := bndV (rLd h x3) fun x15 =>
  bndC (f351 [x14, x15] h) fun x16 h =>
  bndC (f350 [x16] h) fun x17 h =>
  bndV (rExt 0 x17) fun x18 =>
  bndV (rExt 1 x17) fun x19 =>
  bndV (rLenS x18) fun x21 =>
  bndJ (loopF (fun rc vs h => unc1 vs fun x22 =>
  bndV (rLss x22 x21) fun x23 =>
  tstv x23 (bndV (rIaS 1 x18 x22) fun x24 =>
  (f309_3 rc x2 x3 x22 x24 h))
  (some ⟨0, [], h⟩)) 1000000 [(.int .i64 (.ofNat (nat_lit 0)))] h)
  fun j vs h => ret1 (.tuple []) h
noncomputable def f309 (vs : List V) (h : HT) : Option J := unc2 vs fun x0 x1 =>
  bndN (rBox x0) h fun x2 h =>
  bndN (rBox x1) h fun x3 h =>
  bndV (rLd h x3) fun x11 =>
  bndC (f270 [x11, (.func 349 [])] h) fun x12 h =>
  bndV (rLd h x2) fun x14 =>
  (f309_4 x2 x3 x14 h)

/- (*concord/exec.plan).round -/
noncomputable def l255 : List (Nat × (List V → HT → Option J)) := [(305, f305), (306, f306), (308, f308), (309, f309)]
noncomputable def t255 : Fns := tab l255
noncomputable def f255_0 (x0 : V) (x4 : V) (x11 : V) (x12 : V) (x46 : V) (x51 : V) (h : HT) : Option J := bndJ (tstv x51 (bndC (f309 [x0, x46] h) fun x54 h =>
  some ⟨0, [(.bool true)], h⟩)
  (bndV (rLdN h 2 x11) fun x56 =>
  bndV (rBld [(.int .i64 (.ofNat (nat_lit 0))), (.int .i64 (.ofNat (nat_lit 0)))] [] []) fun x57 =>
  bndV (kEqF true [.i, .i] [x56, x57]) fun x58 =>
  bndJ (tstv x58 (bndV (rLdN h 2 x11) fun x60 =>
  bndC (noF [x12, x60] h) fun x61 h =>
  some ⟨0, [], h⟩)
  (some ⟨0, [], h⟩))
  fun j vs h => some ⟨0, [x4], h⟩))
  fun j vs h => unc1 vs fun x4 =>
  some ⟨0, [x4], h⟩
noncomputable def f255_1 (x0 : V) (x4 : V) (x7 : V) (x12 : V) (x35 : V) (h : HT) : Option J := tstv x35 (bndV (rLdN h 2 x7) fun x37 =>
  bndC (f306 [x0, x37] h) fun x38 h =>
  bndJ (tstv x38 (bndV (rLdN h 2 x7) fun x40 =>
  bndC (noF [x12, x40] h) fun x41 h =>
  some ⟨0, [], h⟩)
  (some ⟨0, [], h⟩))
  fun j vs h => some ⟨0, [x4], h⟩)
  (bndV (rLdN h 2 x7) fun x44 =>
  bndC (f308 [x0, x44] h) fun x45 h =>
  bndV (rExt 0 x45) fun x46 =>
  bndV (rExt 1 x45) fun x47 =>
  bndN (rAlloc [(.int .i64 (.ofNat (nat_lit 0))), (.int .i64 (.ofNat (nat_lit 0)))] []) h fun x11 h =>
  bndE (rSt h 2 x11 x47) h fun _ h =>
  bndV (rLenS x46) fun x50 =>
  bndV (rGtr x50 (.int .i64 (.ofNat (nat_lit 0)))) fun x51 =>
  (f255_0 x0 x4 x11 x12 x46 x51 h))
noncomputable def f255_2 (x0 : V) (x4 : V) (x12 : V) (x13 : V) (x22 : V) (h : HT) : Option J := bndV (rAdd x22 (.int .i64 (.ofNat (nat_lit 1)))) fun x23 =>
  bndV (rBld [(.int .i64 (.ofNat (nat_lit 0))), (.int .i64 (.ofNat (nat_lit 0)))] [(0, 1), (1, 1)] [x13, x23]) fun x24 =>
  bndN (rAlloc [(.int .i64 (.ofNat (nat_lit 0))), (.int .i64 (.ofNat (nat_lit 0)))] []) h fun x7 h =>
  bndE (rSt h 2 x7 x24) h fun _ h =>
  bndV (rNilc x0) fun x27 =>
  bndV (rFa 7 x27) fun x28 =>
  bndV (rLd h x28) fun x29 =>
  bndV (rLdN h 2 x7) fun x30 =>
  bndV (kLkp h.heap true [.i, .i] (.agg [(.int .i64 (.ofNat (nat_lit 0))), (.int .i64 (.ofNat (nat_lit 0))), (.int .i64 (.ofNat (nat_lit 0))), (.int .i64 (.ofNat (nat_lit 0))), (.int .i64 (.ofNat (nat_lit 0))), (.int .i64 (.ofNat (nat_lit 0))), (.int .i64 (.ofNat (nat_lit 0))), (.int .i64 (.ofNat (nat_lit 0))), (.str (sb [])), (.str (sb [])), (.str (sb [])), (.str (sb [])), (.int .i64 (.ofNat (nat_lit 0))), (.int .i64 (.ofNat (nat_lit 0))), (.int .i64 (.ofNat (nat_lit 0))), (.int .i64 (.ofNat (nat_lit 0))), (.int .i64 (.ofNat (nat_lit 0))), (.int .i64 (.ofNat (nat_lit 0))), (.int .i64 (.ofNat (nat_lit 0))), (.int .i64 (.ofNat (nat_lit 0))), (.bool false)]) true [x29, x30]) fun x31 =>
  bndV (rExt 0 x31) fun x32 =>
  bndV (rExt 1 x31) fun x33 =>
  bndN (rAlloc [(.int .i64 (.ofNat (nat_lit 0))), (.int .i64 (.ofNat (nat_lit 0))), (.int .i64 (.ofNat (nat_lit 0))), (.int .i64 (.ofNat (nat_lit 0))), (.int .i64 (.ofNat (nat_lit 0))), (.int .i64 (.ofNat (nat_lit 0))), (.int .i64 (.ofNat (nat_lit 0))), (.int .i64 (.ofNat (nat_lit 0))), (.str (sb [])), (.str (sb [])), (.str (sb [])), (.str (sb [])), (.int .i64 (.ofNat (nat_lit 0))), (.int .i64 (.ofNat (nat_lit 0))), (.int .i64 (.ofNat (nat_lit 0))), (.int .i64 (.ofNat (nat_lit 0))), (.int .i64 (.ofNat (nat_lit 0))), (.int .i64 (.ofNat (nat_lit 0))), (.int .i64 (.ofNat (nat_lit 0))), (.int .i64 (.ofNat (nat_lit 0))), (.bool false)] []) h fun x8 h =>
  bndE (rSt h 21 x8 x32) h fun _ h =>
  bndV (rNot x33) fun x35 =>
  (f255_1 x0 x4 x7 x12 x35 h)
noncomputable def f255_3 (x0 : V) (x12 : V) (h : HT) : Option J := bndJ (loopF (fun rc vs h => unc2 vs fun x4 x13 =>
  bndV (rLss x13 (.int .i64 (.ofNat (nat_lit 7)))) fun x14 =>
  tstv x14 (bndJ (bndV (rNilc x0) fun x19 =>
  bndV (rFa 0 x19) fun x20 =>
  bndV (rIaA 7 1 x20 x13) fun x21 =>
  bndV (rLd h x21) fun x22 =>
  (f255_2 x0 x4 x12 x13 x22 h))
  fun j vs h => unc1 vs fun x4 =>
  bndV (rAdd x13 (.int .i64 (.ofNat (nat_lit 1)))) fun x62 =>
  rc [x4, x62] h)
  (some ⟨0, [x4], h⟩)) 1000000 [(.bool false), (.int .i64 (.ofNat (nat_lit 0)))] h)
  fun j vs h => unc1 vs fun x4 =>
  ret1 (.tuple [x4, x12]) h
noncomputable def f255 (vs : List V) (h : HT) : Option J := unc1 vs fun x0 =>
  bndC (f305 [(.slice none 0 true 0)] h) fun x12 h =>
  (f255_3 x0 x12 h)

/- (*concord/inst.Set).List -/
noncomputable def l256 : List (Nat × (List V → HT → Option J)) := [(270, f270)]
noncomputable def t256 : Fns := tab l256
noncomputable def f256_0 (x9 : V) (h : HT) : Option J := bndJ (loopF (fun rc vs h => unc1 vs fun x3 =>
  bndE (dNx h [x9]) h fun x10 h =>
  bndV (rExt 0 x10) fun x11 =>
  tstv x11 (bndV (kEnt h.heap [x9]) fun x12 =>
  bndV (rExt 0 x12) fun x13 =>
  bndN (rAlloc [(.int .i64 (.ofNat (nat_lit 0))), (.int .i64 (.ofNat (nat_lit 0)))] []) h fun x4 h =>
  bndE (rSt h 2 x4 x13) h fun _ h =>
  bndV (rLdN h 2 x4) fun x15 =>
  bndN (rBsl 2 1 [(.int .i64 (.ofNat (nat_lit 0))), (.int .i64 (.ofNat (nat_lit 0)))] [(0, 2)] [x15]) h fun x16 h =>
  bndE (dApp h 2 16 [x3, x16]) h fun x17 h =>
  rc [x17] h)
  (some ⟨0, [x3], h⟩)) 1000000 [(.slice none 0 true 0)] h)
  fun j vs h => unc1 vs fun x3 =>
  bndC (f270 [x3, (.func 310 [])] h) fun x19 h =>
  ret1 x3 h
noncomputable def f256 (vs : List V) (h : HT) : Option J := unc1 vs fun x0 =>
  bndV (rNilc x0) fun x6 =>
  bndV (rFa 0 x6) fun x7 =>
  bndV (rLd h x7) fun x8 =>
  bndN (kRng h.heap [x8]) h fun x9 h =>
  (f256_0 x9 h)

/- concord/exec.Plan -/
noncomputable def l193 : List (Nat × (List V → HT → Option J)) := [(255, f255), (256, f256)]
noncomputable def t193 : Fns := tab l193
noncomputable def f193_0 (x8 : V) (x16 : V) (x32 : V) (x35 : V) (h : HT) : Option J := bndC (gsel x32 false (retV (rFa 0 x35) h) h) fun x36 h =>
  bndC (gsel x32 false (retV (rLd h x36) h) h) fun x37 h =>
  bndC (gsel x32 false (retV (rNeq x37 (.int .i64 (.ofNat (nat_lit 3)))) h) h) fun x38 h =>
  bndV (rPick x32 (.bool true) x38) fun x39 =>
  tstv x39 (some ⟨0, [], h⟩)
  (bndV (rNilc x16) fun x41 =>
  bndV (rFa 7 x41) fun x42 =>
  bndV (rLd h x42) fun x43 =>
  bndV (rFa 0 x8) fun x44 =>
  bndV (rLdN h 2 x44) fun x45 =>
  bndV (rFa 2 x8) fun x46 =>
  bndV (rLdN h 21 x46) fun x47 =>
  bndE (dMset h true [.i, .i] [x43, x45, x47]) h fun _ h =>
  some ⟨0, [], h⟩)
noncomputable def f193_1 (x16 : V) (x21 : V) (h : HT) : Option J := bndV (rLdN h 23 x21) fun x22 =>
  bndN (rAlloc [(.int .i64 (.ofNat (nat_lit 0))), (.int .i64 (.ofNat (nat_lit 0))), (.int .i64 (.ofNat (nat_lit 0))), (.int .i64 (.ofNat (nat_lit 0))), (.int .i64 (.ofNat (nat_lit 0))), (.int .i64 (.ofNat (nat_lit 0))), (.int .i64 (.ofNat (nat_lit 0))), (.int .i64 (.ofNat (nat_lit 0))), (.int .i64 (.ofNat (nat_lit 0))), (.int .i64 (.ofNat (nat_lit 0))), (.str (sb [])), (.str (sb [])), (.str (sb [])), (.str (sb [])), (.int .i64 (.ofNat (nat_lit 0))), (.int .i64 (.ofNat (nat_lit 0))), (.int .i64 (.ofNat (nat_lit 0))), (.int .i64 (.ofNat (nat_lit 0))), (.int .i64 (.ofNat (nat_lit 0))), (.int .i64 (.ofNat (nat_lit 0))), (.int .i64 (.ofNat (nat_lit 0))), (.int .i64 (.ofNat (nat_lit 0))), (.bool false)] []) h fun x8 h =>
  bndE (rSt h 23 x8 x22) h fun _ h =>
  bndV (rNilc x16) fun x25 =>
  bndV (rFa 7 x25) fun x26 =>
  bndV (rLd h x26) fun x27 =>
  bndV (rFa 0 x8) fun x28 =>
  bndV (rLdN h 2 x28) fun x29 =>
  bndV (kLkp h.heap true [.i, .i] (.agg [(.int .i64 (.ofNat (nat_lit 0))), (.int .i64 (.ofNat (nat_lit 0))), (.int .i64 (.ofNat (nat_lit 0))), (.int .i64 (.ofNat (nat_lit 0))), (.int .i64 (.ofNat (nat_lit 0))), (.int .i64 (.ofNat (nat_lit 0))), (.int .i64 (.ofNat (nat_lit 0))), (.int .i64 (.ofNat (nat_lit 0))), (.str (sb [])), (.str (sb [])), (.str (sb [])), (.str (sb [])), (.int .i64 (.ofNat (nat_lit 0))), (.int .i64 (.ofNat (nat_lit 0))), (.int .i64 (.ofNat (nat_lit 0))), (.int .i64 (.ofNat (nat_lit 0))), (.int .i64 (.ofNat (nat_lit 0))), (.int .i64 (.ofNat (nat_lit 0))), (.int .i64 (.ofNat (nat_lit 0))), (.int .i64 (.ofNat (nat_lit 0))), (.bool false)]) true [x27, x29]) fun x30 =>
  bndV (rExt 0 x30) fun x31 =>
  bndV (rExt 1 x30) fun x32 =>
  bndN (rAlloc [(.int .i64 (.ofNat (nat_lit 0))), (.int .i64 (.ofNat (nat_lit 0))), (.int .i64 (.ofNat (nat_lit 0))), (.int .i64 (.ofNat (nat_lit 0))), (.int .i64 (.ofNat (nat_lit 0))), (.int .i64 (.ofNat (nat_lit 0))), (.int .i64 (.ofNat (nat_lit 0))), (.int .i64 (.ofNat (nat_lit 0))), (.str (sb [])), (.str (sb [])), (.str (sb [])), (.str (sb [])), (.int .i64 (.ofNat (nat_lit 0))), (.int .i64 (.ofNat (nat_lit 0))), (.int .i64 (.ofNat (nat_lit 0))), (.int .i64 (.ofNat (nat_lit 0))), (.int .i64 (.ofNat (nat_lit 0))), (.int .i64 (.ofNat (nat_lit 0))), (.int .i64 (.ofNat (nat_lit 0))), (.int .i64 (.ofNat (nat_lit 0))), (.bool false)] []) h fun x9 h =>
  bndE (rSt h 21 x9 x31) h fun _ h =>
  bndC (gsel x32 false (retV (rFa 2 x8) h) h) fun x35 h =>
  (f193_0 x8 x16 x32 x35 h)
noncomputable def f193_2 (x16 : V) (h : HT) : Option J := bndJ (loopF (fun rc vs h => bndC (f255 [x16] h) fun x51 h =>
  bndV (rExt 0 x51) fun x52 =>
  bndV (rExt 1 x51) fun x53 =>
  bndV (rNot x52) fun x55 =>
  tstv x55 (bndV (rNilc x16) fun x57 =>
  bndV (rFa 8 x57) fun x58 =>
  bndV (rLd h x58) fun x59 =>
  bndC (f256 [x53] h) fun x61 h =>
  chk1 (sameE (rLd h x58) x59) (some ⟨0, [x59, x61], h⟩))
  (rc [] h)) 1000000 [] h)
  fun j vs h => unc2 vs fun x4 x5 =>
  ret1 (.tuple [x4, x5]) h
noncomputable def f193_3 (x1 : V) (x13 : V) (x14 : V) (h : HT) : Option J := bndV (rBld [(.int .i64 (.ofNat (nat_lit 0))), (.int .i64 (.ofNat (nat_lit 0))), (.int .i64 (.ofNat (nat_lit 0))), (.int .i64 (.ofNat (nat_lit 0))), (.int .i64 (.ofNat (nat_lit 0))), (.int .i64 (.ofNat (nat_lit 0))), (.int .i64 (.ofNat (nat_lit 0))), (.map none), (.slice none 0 true 0)] [(0, 7), (7, 1)] [x13, x14]) fun x15 =>
  bndN (rBox x15) h fun x16 h =>
  bndV (rLenS x1) fun x18 =>
  bndJ (loopF (fun rc vs h => unc1 vs fun x19 =>
  bndV (rLss x19 x18) fun x20 =>
  tstv x20 (bndJ (bndV (rIaS 23 x1 x19) fun x21 =>
  (f193_1 x16 x21 h))
  fun j vs h => bndV (rAdd x19 (.int .i64 (.ofNat (nat_lit 1)))) fun x48 =>
  rc [x48] h)
  (some ⟨0, [], h⟩)) 1000000 [(.int .i64 (.ofNat (nat_lit 0)))] h)
  fun j vs h => (f193_2 x16 h)
noncomputable def f193 (vs : List V) (h : HT) : Option J := unc2 vs fun x0 x1 =>
  bndN (rBox x0) h fun x2 h =>
  bndV (rLdN h 7 x2) fun x13 =>
  bndN (kMkM []) h fun x14 h =>
  (f193_3 x1 x13 x14 h)

/- (*concord/log.Log).List -/
noncomputable def l204 : List (Nat × (List V → HT → Option J)) := [(270, f270)]
noncomputable def t204 : Fns := tab l204
noncomputable def f204_0 (x9 : V) (h : HT) : Option J := bndJ (loopF (fun rc vs h => unc1 vs fun x3 =>
  bndE (dNx h [x9]) h fun x10 h =>
  bndV (rExt 0 x10) fun x11 =>
  tstv x11 (bndV (kEnt h.heap [x9]) fun x12 =>
  bndV (rExt 0 x12) fun x13 =>
  bndN (rAlloc [(.int .i64 (.ofNat (nat_lit 0))), (.int .i64 (.ofNat (nat_lit 0)))] []) h fun x4 h =>
  bndE (rSt h 2 x4 x13) h fun _ h =>
  bndV (rLdN h 2 x4) fun x15 =>
  bndN (rBsl 2 1 [(.int .i64 (.ofNat (nat_lit 0))), (.int .i64 (.ofNat (nat_lit 0)))] [(0, 2)] [x15]) h fun x16 h =>
  bndE (dApp h 2 16 [x3, x16]) h fun x17 h =>
  rc [x17] h)
  (some ⟨0, [x3], h⟩)) 1000000 [(.slice none 0 true 0)] h)
  fun j vs h => unc1 vs fun x3 =>
  bndC (f270 [x3, (.func 271 [])] h) fun x19 h =>
  ret1 x3 h
noncomputable def f204 (vs : List V) (h : HT) : Option J := unc1 vs fun x0 =>
  bndV (rNilc x0) fun x6 =>
  bndV (rFa 0 x6) fun x7 =>
  bndV (rLd h x7) fun x8 =>
  bndN (kRng h.heap [x8]) h fun x9 h =>
  (f204_0 x9 h)

/- (*concord/core.Core).Cells -/
noncomputable def l123 : List (Nat × (List V → HT → Option J)) := [(204, f204)]
noncomputable def t123 : Fns := tab l123

noncomputable def f123 (vs : List V) (h : HT) : Option J := unc1 vs fun x0 =>
  bndV (rNilc x0) fun x4 =>
  bndV (rFa 2 x4) fun x5 =>
  bndV (rLd h x5) fun x6 =>
  bndC (f204 [x6] h) fun x7 h =>
  ret1 x7 h

/- (*concord/log.Log).Cell -/
noncomputable def l205 : List (Nat × (List V → HT → Option J)) := []
noncomputable def t205 : Fns := tab l205
noncomputable def f205_0 (x4 : V) (x12 : V) (x13 : V) (h : HT) : Option J := bndV (kLkp h.heap true [.i, .i] (.agg [(.int .i64 (.ofNat (nat_lit 0))), (.int .i64 (.ofNat (nat_lit 0))), (.int .i64 (.ofNat (nat_lit 0))), (.int .i64 (.ofNat (nat_lit 0))), (.int .i64 (.ofNat (nat_lit 0))), (.int .i64 (.ofNat (nat_lit 0))), (.int .i64 (.ofNat (nat_lit 0))), (.int .i64 (.ofNat (nat_lit 0))), (.str (sb [])), (.str (sb [])), (.str (sb [])), (.str (sb [])), (.int .i64 (.ofNat (nat_lit 0))), (.int .i64 (.ofNat (nat_lit 0))), (.int .i64 (.ofNat (nat_lit 0))), (.int .i64 (.ofNat (nat_lit 0))), (.int .i64 (.ofNat (nat_lit 0))), (.int .i64 (.ofNat (nat_lit 0))), (.int .i64 (.ofNat (nat_lit 0))), (.int .i64 (.ofNat (nat_lit 0))), (.bool false)]) true [x12, x13]) fun x14 =>
  bndV (rExt 0 x14) fun x15 =>
  bndV (rExt 1 x14) fun x16 =>
  bndN (rAlloc [(.int .i64 (.ofNat (nat_lit 0))), (.int .i64 (.ofNat (nat_lit 0))), (.int .i64 (.ofNat (nat_lit 0))), (.int .i64 (.ofNat (nat_lit 0))), (.int .i64 (.ofNat (nat_lit 0))), (.int .i64 (.ofNat (nat_lit 0))), (.int .i64 (.ofNat (nat_lit 0))), (.int .i64 (.ofNat (nat_lit 0))), (.str (sb [])), (.str (sb [])), (.str (sb [])), (.str (sb [])), (.int .i64 (.ofNat (nat_lit 0))), (.int .i64 (.ofNat (nat_lit 0))), (.int .i64 (.ofNat (nat_lit 0))), (.int .i64 (.ofNat (nat_lit 0))), (.int .i64 (.ofNat (nat_lit 0))), (.int .i64 (.ofNat (nat_lit 0))), (.int .i64 (.ofNat (nat_lit 0))), (.int .i64 (.ofNat (nat_lit 0))), (.bool false)] []) h fun x6 h =>
  bndE (rSt h 21 x6 x15) h fun _ h =>
  bndV (rNot x16) fun x18 =>
  tstv x18 (bndV (rBld [(.int .i64 (.ofNat (nat_lit 0))), (.int .i64 (.ofNat (nat_lit 0))), (.int .i64 (.ofNat (nat_lit 0))), (.int .i64 (.ofNat (nat_lit 0))), (.int .i64 (.ofNat (nat_lit 0))), (.int .i64 (.ofNat (nat_lit 0))), (.int .i64 (.ofNat (nat_lit 0))), (.int .i64 (.ofNat (nat_lit 0))), (.str (sb [])), (.str (sb [])), (.str (sb [])), (.str (sb [])), (.int .i64 (.ofNat (nat_lit 0))), (.int .i64 (.ofNat (nat_lit 0))), (.int .i64 (.ofNat (nat_lit 0))), (.int .i64 (.ofNat (nat_lit 0))), (.int .i64 (.ofNat (nat_lit 0))), (.int .i64 (.ofNat (nat_lit 0))), (.int .i64 (.ofNat (nat_lit 0))), (.int .i64 (.ofNat (nat_lit 0))), (.bool false)] [] []) fun x19 =>
  bndE (rSt h 21 x4 x19) h fun _ h =>
  bndV (qLd h (some 21) [x4]) fun x900000 =>
  ret1 (.tuple [x900000, (.bool false)]) h)
  (bndV (rLdN h 21 x6) fun x20 =>
  bndE (rSt h 21 x4 x20) h fun _ h =>
  bndV (qLd h (some 21) [x4]) fun x900000 =>
  ret1 (.tuple [x900000, (.bool true)]) h)
noncomputable def f205 (vs : List V) (h : HT) : Option J := unc2 vs fun x0 x1 =>
  bndN (rBox x1) h fun x3 h =>
  bndN (rAlloc [(.int .i64 (.ofNat (nat_lit 0))), (.int .i64 (.ofNat (nat_lit 0))), (.int .i64 (.ofNat (nat_lit 0))), (.int .i64 (.ofNat (nat_lit 0))), (.int .i64 (.ofNat (nat_lit 0))), (.int .i64 (.ofNat (nat_lit 0))), (.int .i64 (.ofNat (nat_lit 0))), (.int .i64 (.ofNat (nat_lit 0))), (.str (sb [])), (.str (sb [])), (.str (sb [])), (.str (sb [])), (.int .i64 (.ofNat (nat_lit 0))), (.int .i64 (.ofNat (nat_lit 0))), (.int .i64 (.ofNat (nat_lit 0))), (.int .i64 (.ofNat (nat_lit 0))), (.int .i64 (.ofNat (nat_lit 0))), (.int .i64 (.ofNat (nat_lit 0))), (.int .i64 (.ofNat (nat_lit 0))), (.int .i64 (.ofNat (nat_lit 0))), (.bool false)] []) h fun x4 h =>
  bndV (rNilc x0) fun x10 =>
  bndV (rFa 0 x10) fun x11 =>
  bndV (rLd h x11) fun x12 =>
  bndV (rLdN h 2 x3) fun x13 =>
  (f205_0 x4 x12 x13 h)

/- (*concord/core.Core).Cell -/
noncomputable def l124 : List (Nat × (List V → HT → Option J)) := [(205, f205)]
noncomputable def t124 : Fns := tab l124

noncomputable def f124 (vs : List V) (h : HT) : Option J := unc2 vs fun x0 x1 =>
  bndN (rBox x1) h fun x3 h =>
  bndN (rAlloc [(.int .i64 (.ofNat (nat_lit 0))), (.int .i64 (.ofNat (nat_lit 0))), (.int .i64 (.ofNat (nat_lit 0))), (.int .i64 (.ofNat (nat_lit 0))), (.int .i64 (.ofNat (nat_lit 0))), (.int .i64 (.ofNat (nat_lit 0))), (.int .i64 (.ofNat (nat_lit 0))), (.int .i64 (.ofNat (nat_lit 0))), (.str (sb [])), (.str (sb [])), (.str (sb [])), (.str (sb [])), (.int .i64 (.ofNat (nat_lit 0))), (.int .i64 (.ofNat (nat_lit 0))), (.int .i64 (.ofNat (nat_lit 0))), (.int .i64 (.ofNat (nat_lit 0))), (.int .i64 (.ofNat (nat_lit 0))), (.int .i64 (.ofNat (nat_lit 0))), (.int .i64 (.ofNat (nat_lit 0))), (.int .i64 (.ofNat (nat_lit 0))), (.bool false)] []) h fun x4 h =>
  bndV (rNilc x0) fun x7 =>
  bndV (rFa 2 x7) fun x8 =>
  bndV (rLd h x8) fun x9 =>
  bndV (rLdN h 2 x3) fun x10 =>
  bndC (f205 [x9, x10] h) fun x11 h =>
  bndV (rExt 0 x11) fun x12 =>
  bndV (rExt 1 x11) fun x13 =>
  bndE (rSt h 21 x4 x12) h fun _ h =>
  bndV (qLd h (some 21) [x4]) fun x900000 =>
  ret1 (.tuple [x900000, x13]) h

/- (*concord/node.Node).committed -/
noncomputable def l194 : List (Nat × (List V → HT → Option J)) := [(123, f123), (124, f124)]
noncomputable def t194 : Fns := tab l194
noncomputable def f194_0 (rc : List V → HT → Option J) (x3 : V) (x5 : V) (x6 : V) (x14 : V) (x36 : V) (x38 : V) (h : HT) : Option J := bndC (gsel x36 true (retV (rLd h x38) h) h) fun x39 h =>
  bndC (gsel x36 true (retV (rEql x39 (.int .i64 (.ofNat (nat_lit 3)))) h) h) fun x40 h =>
  bndV (rPick x36 x40 (.bool false)) fun x41 =>
  bndJ (tstv x41 (bndV (rLdN h 2 x5) fun x43 =>
  bndV (rLdN h 21 x6) fun x44 =>
  bndV (rBld [(.int .i64 (.ofNat (nat_lit 0))), (.int .i64 (.ofNat (nat_lit 0))), (.int .i64 (.ofNat (nat_lit 0))), (.int .i64 (.ofNat (nat_lit 0))), (.int .i64 (.ofNat (nat_lit 0))), (.int .i64 (.ofNat (nat_lit 0))), (.int .i64 (.ofNat (nat_lit 0))), (.int .i64 (.ofNat (nat_lit 0))), (.int .i64 (.ofNat (nat_lit 0))), (.int .i64 (.ofNat (nat_lit 0))), (.str (sb [])), (.str (sb [])), (.str (sb [])), (.str (sb [])), (.int .i64 (.ofNat (nat_lit 0))), (.int .i64 (.ofNat (nat_lit 0))), (.int .i64 (.ofNat (nat_lit 0))), (.int .i64 (.ofNat (nat_lit 0))), (.int .i64 (.ofNat (nat_lit 0))), (.int .i64 (.ofNat (nat_lit 0))), (.int .i64 (.ofNat (nat_lit 0))), (.int .i64 (.ofNat (nat_lit 0))), (.bool false)] [(0, 2), (2, 21)] [x43, x44]) fun x45 =>
  bndN (rBsl 23 1 [(.int .i64 (.ofNat (nat_lit 0))), (.int .i64 (.ofNat (nat_lit 0))), (.int .i64 (.ofNat (nat_lit 0))), (.int .i64 (.ofNat (nat_lit 0))), (.int .i64 (.ofNat (nat_lit 0))), (.int .i64 (.ofNat (nat_lit 0))), (.int .i64 (.ofNat (nat_lit 0))), (.int .i64 (.ofNat (nat_lit 0))), (.int .i64 (.ofNat (nat_lit 0))), (.int .i64 (.ofNat (nat_lit 0))), (.str (sb [])), (.str (sb [])), (.str (sb [])), (.str (sb [])), (.int .i64 (.ofNat (nat_lit 0))), (.int .i64 (.ofNat (nat_lit 0))), (.int .i64 (.ofNat (nat_lit 0))), (.int .i64 (.ofNat (nat_lit 0))), (.int .i64 (.ofNat (nat_lit 0))), (.int .i64 (.ofNat (nat_lit 0))), (.int .i64 (.ofNat (nat_lit 0))), (.int .i64 (.ofNat (nat_lit 0))), (.bool false)] [(0, 23)] [x45]) h fun x46 h =>
  bndE (dApp h 23 216 [x3, x46]) h fun x47 h =>
  some ⟨0, [x47], h⟩)
  (some ⟨0, [x3], h⟩))
  fun j vs h => unc1 vs fun x3 =>
  bndV (rAdd x14 (.int .i64 (.ofNat (nat_lit 1)))) fun x48 =>
  rc [x3, x48] h
noncomputable def f194_1 (rc : List V → HT → Option J) (x0 : V) (x3 : V) (x5 : V) (x6 : V) (x14 : V) (x22 : V) (x23 : V) (h : HT) : Option J := bndC (f124 [x22, x23] h) fun x24 h =>
  bndV (rExt 0 x24) fun x25 =>
  bndV (rExt 1 x24) fun x26 =>
  bndE (rSt h 21 x6 x25) h fun _ h =>
  bndV (rFa 1 x5) fun x27 =>
  bndV (rLd h x27) fun x28 =>
  bndV (rFa 0 x5) fun x30 =>
  bndV (rLd h x30) fun x31 =>
  bndV (rNilc x0) fun x32 =>
  bndV (rFa 55 x32) fun x33 =>
  bndV (rIaA 7 1 x33 x31) fun x34 =>
  bndV (rLd h x34) fun x35 =>
  bndV (rGtr x28 x35) fun x36 =>
  bndC (gsel x36 true (retV (rFa 0 x6) h) h) fun x38 h =>
  (f194_0 rc x3 x5 x6 x14 x36 x38 h)
noncomputable def f194_2 (x0 : V) (x12 : V) (x13 : V) (h : HT) : Option J := loopF (fun rc vs h => unc2 vs fun x3 x14 =>
  bndV (rLss x14 x13) fun x15 =>
  tstv x15 (bndV (rIaS 2 x12 x14) fun x16 =>
  bndV (rLdN h 2 x16) fun x17 =>
  bndN (rAlloc [(.int .i64 (.ofNat (nat_lit 0))), (.int .i64 (.ofNat (nat_lit 0)))] []) h fun x5 h =>
  bndE (rSt h 2 x5 x17) h fun _ h =>
  bndV (rNilc x0) fun x20 =>
  bndV (rFa 4 x20) fun x21 =>
  bndV (rLd h x21) fun x22 =>
  bndV (rLdN h 2 x5) fun x23 =>
  bndN (rAlloc [(.int .i64 (.ofNat (nat_lit 0))), (.int .i64 (.ofNat (nat_lit 0))), (.int .i64 (.ofNat (nat_lit 0))), (.int .i64 (.ofNat (nat_lit 0))), (.int .i64 (.ofNat (nat_lit 0))), (.int .i64 (.ofNat (nat_lit 0))), (.int .i64 (.ofNat (nat_lit 0))), (.int .i64 (.ofNat (nat_lit 0))), (.str (sb [])), (.str (sb [])), (.str (sb [])), (.str (sb [])), (.int .i64 (.ofNat (nat_lit 0))), (.int .i64 (.ofNat (nat_lit 0))), (.int .i64 (.ofNat (nat_lit 0))), (.int .i64 (.ofNat (nat_lit 0))), (.int .i64 (.ofNat (nat_lit 0))), (.int .i64 (.ofNat (nat_lit 0))), (.int .i64 (.ofNat (nat_lit 0))), (.int .i64 (.ofNat (nat_lit 0))), (.bool false)] []) h fun x6 h =>
  (f194_1 rc x0 x3 x5 x6 x14 x22 x23 h))
  (some ⟨0, [x3], h⟩)) 1000000 [(.slice none 0 true 0), (.int .i64 (.ofNat (nat_lit 0)))] h
noncomputable def f194 (vs : List V) (h : HT) : Option J := unc1 vs fun x0 =>
  bndV (rNilc x0) fun x9 =>
  bndV (rFa 4 x9) fun x10 =>
  bndV (rLd h x10) fun x11 =>
  bndC (f123 [x11] h) fun x12 h =>
  bndV (rLenS x12) fun x13 =>
  bndJ ((f194_2 x0 x12 x13 h))
  fun j vs h => unc1 vs fun x3 =>
  ret1 x3 h

/- slices.Clone[[]concord/api.Pair,concord/api.Pair] -/
noncomputable def l70 : List (Nat × (List V → HT → Option J)) := []
noncomputable def t70 : Fns := tab l70

noncomputable def f70 (vs : List V) (h : HT) : Option J := unc1 vs fun x0 =>
  bndV (kEqN false [x0, (.slice none 0 true 0)]) fun x4 =>
  tstv x4 (ret1 (.slice none 0 true 0) h)
  (bndN (rBsl 3 0 [] [] []) h fun x5 h =>
  bndE (dApp h 3 40 [x5, x0]) h fun x7 h =>
  ret1 x7 h)

/- concord/dedup.known -/
noncomputable def l311 : List (Nat × (List V → HT → Option J)) := []
noncomputable def t311 : Fns := tab l311

noncomputable def f311 (vs : List V) (h : HT) : Option J := unc1 vs fun x0 =>
  bndV (rGeq x0 (.int .i64 (.ofNat (nat_lit 1)))) fun x4 =>
  bndC (gsel x4 true (retV (kMov [x0]) h) h) fun x6 h =>
  bndC (gsel x4 true (retV (rLeq x6 (.int .i64 (.ofNat (nat_lit 8)))) h) h) fun x7 h =>
  bndV (rPick x4 x7 (.bool false)) fun x8 =>
  ret1 x8 h

/- concord/dedup.copied -/
noncomputable def l312 : List (Nat × (List V → HT → Option J)) := [(70, f70)]
noncomputable def t312 : Fns := tab l312

noncomputable def f312 (vs : List V) (h : HT) : Option J := unc1 vs fun x0 =>
  bndN (rBox x0) h fun x1 h =>
  bndN (rAlloc [(.int .i64 (.ofNat (nat_lit 0))), (.bool false), (.str (sb [])), (.int .i64 (.ofNat (nat_lit 0))), (.slice none 0 true 0)] []) h fun x2 h =>
  bndV (rFa 4 x1) fun x3 =>
  bndV (rLd h x3) fun x4 =>
  bndC (f70 [x4] h) fun x5 h =>
  bndV (rFa 4 x1) fun x6 =>
  bndE (rSt h 1 x6 x5) h fun _ h =>
  bndV (rLdN h 5 x1) fun x7 =>
  bndE (rSt h 5 x2 x7) h fun _ h =>
  bndV (qLd h (some 5) [x2]) fun x900000 =>
  ret1 x900000 h

/- concord/dedup.Note -/
noncomputable def l259 : List (Nat × (List V → HT → Option J)) := [(311, f311), (312, f312)]
noncomputable def t259 : Fns := tab l259
noncomputable def f259_0 (x4 : V) (x8 : V) (h : HT) : Option J := bndJ (loopF (fun rc vs h => unc1 vs fun x18 =>
  bndV (rLss x18 (.int .i64 (.ofNat (nat_lit 8)))) fun x19 =>
  tstv x19 (bndV (rIaA 8 6 x4 x18) fun x23 =>
  bndV (rFa 1 x23) fun x24 =>
  bndV (rLdN h 5 x24) fun x25 =>
  bndC (f312 [x25] h) fun x26 h =>
  bndV (rIaA 8 6 x4 x18) fun x27 =>
  bndV (rFa 1 x27) fun x28 =>
  bndE (rSt h 5 x28 x26) h fun _ h =>
  bndV (rAdd x18 (.int .i64 (.ofNat (nat_lit 1)))) fun x29 =>
  rc [x29] h)
  (some ⟨0, [], h⟩)) 1000000 [(.int .i64 (.ofNat (nat_lit 0)))] h)
  fun j vs h => bndV (rLdN h 48 x4) fun x30 =>
  bndE (rSt h 48 x8 x30) h fun _ h =>
  bndV (qLd h (some 48) [x8]) fun x900000 =>
  ret1 x900000 h
noncomputable def f259 (vs : List V) (h : HT) : Option J := unc4 vs fun x0 x1 x2 x3 vs =>
  bndN (rBox x0) h fun x4 h =>
  bndN (rBox x3) h fun x7 h =>
  bndN (rAlloc [(.int .i64 (.ofNat (nat_lit 0))), (.int .i64 (.ofNat (nat_lit 0))), (.bool false), (.str (sb [])), (.int .i64 (.ofNat (nat_lit 0))), (.slice none 0 true 0), (.int .i64 (.ofNat (nat_lit 0))), (.int .i64 (.ofNat (nat_lit 0))), (.bool false), (.str (sb [])), (.int .i64 (.ofNat (nat_lit 0))), (.slice none 0 true 0), (.int .i64 (.ofNat (nat_lit 0))), (.int .i64 (.ofNat (nat_lit 0))), (.bool false), (.str (sb [])), (.int .i64 (.ofNat (nat_lit 0))), (.slice none 0 true 0), (.int .i64 (.ofNat (nat_lit 0))), (.int .i64 (.ofNat (nat_lit 0))), (.bool false), (.str (sb [])), (.int .i64 (.ofNat (nat_lit 0))), (.slice none 0 true 0), (.int .i64 (.ofNat (nat_lit 0))), (.int .i64 (.ofNat (nat_lit 0))), (.bool false), (.str (sb [])), (.int .i64 (.ofNat (nat_lit 0))), (.slice none 0 true 0), (.int .i64 (.ofNat (nat_lit 0))), (.int .i64 (.ofNat (nat_lit 0))), (.bool false), (.str (sb [])), (.int .i64 (.ofNat (nat_lit 0))), (.slice none 0 true 0), (.int .i64 (.ofNat (nat_lit 0))), (.int .i64 (.ofNat (nat_lit 0))), (.bool false), (.str (sb [])), (.int .i64 (.ofNat (nat_lit 0))), (.slice none 0 true 0), (.int .i64 (.ofNat (nat_lit 0))), (.int .i64 (.ofNat (nat_lit 0))), (.bool false), (.str (sb [])), (.int .i64 (.ofNat (nat_lit 0))), (.slice none 0 true 0)] []) h fun x8 h =>
  bndC (f311 [x1] h) fun x11 h =>
  bndJ (tstv x11 (bndV (rSub x1 (.int .i64 (.ofNat (nat_lit 1)))) fun x13 =>
  bndV (rLdN h 5 x7) fun x15 =>
  bndV (rBld [(.int .i64 (.ofNat (nat_lit 0))), (.int .i64 (.ofNat (nat_lit 0))), (.bool false), (.str (sb [])), (.int .i64 (.ofNat (nat_lit 0))), (.slice none 0 true 0)] [(0, 1), (1, 5)] [x2, x15]) fun x16 =>
  bndV (rIaA 8 6 x4 x13) fun x17 =>
  bndE (rSt h 6 x17 x16) h fun _ h =>
  some ⟨0, [], h⟩)
  (some ⟨0, [], h⟩))
  fun j vs h => (f259_0 x4 x8 h)

/- concord/state.copied -/
noncomputable def l203 : List (Nat × (List V → HT → Option J)) := [(70, f70), (259, f259)]
noncomputable def t203 : Fns := tab l203

noncomputable def f203 (vs : List V) (h : HT) : Option J := unc1 vs fun x0 =>
  bndN (rBox x0) h fun x1 h =>
  bndN (rAlloc [(.slice none 0 true 0), (.int .i64 (.ofNat (nat_lit 0))), (.int .i64 (.ofNat (nat_lit 0))), (.bool false), (.str (sb [])), (.int .i64 (.ofNat (nat_lit 0))), (.slice none 0 true 0), (.int .i64 (.ofNat (nat_lit 0))), (.int .i64 (.ofNat (nat_lit 0))), (.bool false), (.str (sb [])), (.int .i64 (.ofNat (nat_lit 0))), (.slice none 0 true 0), (.int .i64 (.ofNat (nat_lit 0))), (.int .i64 (.ofNat (nat_lit 0))), (.bool false), (.str (sb [])), (.int .i64 (.ofNat (nat_lit 0))), (.slice none 0 true 0), (.int .i64 (.ofNat (nat_lit 0))), (.int .i64 (.ofNat (nat_lit 0))), (.bool false), (.str (sb [])), (.int .i64 (.ofNat (nat_lit 0))), (.slice none 0 true 0), (.int .i64 (.ofNat (nat_lit 0))), (.int .i64 (.ofNat (nat_lit 0))), (.bool false), (.str (sb [])), (.int .i64 (.ofNat (nat_lit 0))), (.slice none 0 true 0), (.int .i64 (.ofNat (nat_lit 0))), (.int .i64 (.ofNat (nat_lit 0))), (.bool false), (.str (sb [])), (.int .i64 (.ofNat (nat_lit 0))), (.slice none 0 true 0), (.int .i64 (.ofNat (nat_lit 0))), (.int .i64 (.ofNat (nat_lit 0))), (.bool false), (.str (sb [])), (.int .i64 (.ofNat (nat_lit 0))), (.slice none 0 true 0), (.int .i64 (.ofNat (nat_lit 0))), (.int .i64 (.ofNat (nat_lit 0))), (.bool false), (.str (sb [])), (.int .i64 (.ofNat (nat_lit 0))), (.slice none 0 true 0)] []) h fun x2 h =>
  bndV (rFa 0 x1) fun x3 =>
  bndV (rLd h x3) fun x4 =>
  bndV (rFa 1 x1) fun x6 =>
  bndV (rLdN h 48 x6) fun x7 =>
  bndV (rBld [(.int .i64 (.ofNat (nat_lit 0))), (.bool false), (.str (sb [])), (.int .i64 (.ofNat (nat_lit 0))), (.slice none 0 true 0)] [] []) fun x8 =>
  bndC (f70 [x4] h) fun x5 h =>
  chk1 (sameE (rLdN h 48 x6) x7) (bndC (f259 [x7, (.int .i64 (.ofNat (nat_lit 0))), (.int .i64 (.ofNat (nat_lit 0))), x8] h) fun x9 h =>
  bndV (rBld [(.slice none 0 true 0), (.int .i64 (.ofNat (nat_lit 0))), (.int .i64 (.ofNat (nat_lit 0))), (.bool false), (.str (sb [])), (.int .i64 (.ofNat (nat_lit 0))), (.slice none 0 true 0), (.int .i64 (.ofNat (nat_lit 0))), (.int .i64 (.ofNat (nat_lit 0))), (.bool false), (.str (sb [])), (.int .i64 (.ofNat (nat_lit 0))), (.slice none 0 true 0), (.int .i64 (.ofNat (nat_lit 0))), (.int .i64 (.ofNat (nat_lit 0))), (.bool false), (.str (sb [])), (.int .i64 (.ofNat (nat_lit 0))), (.slice none 0 true 0), (.int .i64 (.ofNat (nat_lit 0))), (.int .i64 (.ofNat (nat_lit 0))), (.bool false), (.str (sb [])), (.int .i64 (.ofNat (nat_lit 0))), (.slice none 0 true 0), (.int .i64 (.ofNat (nat_lit 0))), (.int .i64 (.ofNat (nat_lit 0))), (.bool false), (.str (sb [])), (.int .i64 (.ofNat (nat_lit 0))), (.slice none 0 true 0), (.int .i64 (.ofNat (nat_lit 0))), (.int .i64 (.ofNat (nat_lit 0))), (.bool false), (.str (sb [])), (.int .i64 (.ofNat (nat_lit 0))), (.slice none 0 true 0), (.int .i64 (.ofNat (nat_lit 0))), (.int .i64 (.ofNat (nat_lit 0))), (.bool false), (.str (sb [])), (.int .i64 (.ofNat (nat_lit 0))), (.slice none 0 true 0), (.int .i64 (.ofNat (nat_lit 0))), (.int .i64 (.ofNat (nat_lit 0))), (.bool false), (.str (sb [])), (.int .i64 (.ofNat (nat_lit 0))), (.slice none 0 true 0)] [(0, 1), (1, 48)] [x5, x9]) fun x10 =>
  bndE (rSt h 49 x2 x10) h fun _ h =>
  bndV (qLd h (some 49) [x2]) fun x900000 =>
  ret1 x900000 h)

/- concord/dedup.Look -/
noncomputable def l257 : List (Nat × (List V → HT → Option J)) := [(311, f311)]
noncomputable def t257 : Fns := tab l257
noncomputable def f257_0 (x2 : V) (x7 : V) (x8 : V) (x21 : V) (h : HT) : Option J := tstv x21 (bndV (rBld [(.int .i64 (.ofNat (nat_lit 0))), (.bool false), (.str (sb [])), (.int .i64 (.ofNat (nat_lit 0))), (.slice none 0 true 0)] [] []) fun x22 =>
  bndE (rSt h 5 x7 x22) h fun _ h =>
  bndV (qLd h (some 5) [x7]) fun x900000 =>
  ret1 (.tuple [(.int .i64 (.ofNat (nat_lit 1))), x900000]) h)
  (bndV (rFa 0 x8) fun x25 =>
  bndV (rLd h x25) fun x26 =>
  bndV (rEql x2 x26) fun x27 =>
  tstv x27 (bndV (rFa 1 x8) fun x28 =>
  bndV (rLdN h 5 x28) fun x29 =>
  bndC (noF [x29] h) fun x30 h =>
  bndE (rSt h 5 x7 x30) h fun _ h =>
  bndV (qLd h (some 5) [x7]) fun x900000 =>
  ret1 (.tuple [(.int .i64 (.ofNat (nat_lit 2))), x900000]) h)
  (bndV (rBld [(.int .i64 (.ofNat (nat_lit 0))), (.bool false), (.str (sb [])), (.int .i64 (.ofNat (nat_lit 0))), (.slice none 0 true 0)] [] []) fun x31 =>
  bndE (rSt h 5 x7 x31) h fun _ h =>
  bndV (qLd h (some 5) [x7]) fun x900000 =>
  ret1 (.tuple [(.int .i64 (.ofNat (nat_lit 3))), x900000]) h))
noncomputable def f257_1 (x1 : V) (x2 : V) (x3 : V) (x7 : V) (x10 : V) (h : HT) : Option J := bndV (rNot x10) fun x11 =>
  tstv x11 (bndV (rBld [(.int .i64 (.ofNat (nat_lit 0))), (.bool false), (.str (sb [])), (.int .i64 (.ofNat (nat_lit 0))), (.slice none 0 true 0)] [] []) fun x12 =>
  bndE (rSt h 5 x7 x12) h fun _ h =>
  bndV (qLd h (some 5) [x7]) fun x900000 =>
  ret1 (.tuple [(.int .i64 (.ofNat (nat_lit 0))), x900000]) h)
  (bndV (rSub x1 (.int .i64 (.ofNat (nat_lit 1)))) fun x14 =>
  bndV (rIaA 8 6 x3 x14) fun x15 =>
  bndV (rLdN h 6 x15) fun x16 =>
  bndN (rAlloc [(.int .i64 (.ofNat (nat_lit 0))), (.int .i64 (.ofNat (nat_lit 0))), (.bool false), (.str (sb [])), (.int .i64 (.ofNat (nat_lit 0))), (.slice none 0 true 0)] []) h fun x8 h =>
  bndE (rSt h 6 x8 x16) h fun _ h =>
  bndV (rFa 0 x8) fun x19 =>
  bndV (rLd h x19) fun x20 =>
  bndV (rGtr x2 x20) fun x21 =>
  (f257_0 x2 x7 x8 x21 h))
noncomputable def f257 (vs : List V) (h : HT) : Option J := unc3 vs fun x0 x1 x2 =>
  bndN (rBox x0) h fun x3 h =>
  bndN (rAlloc [(.int .i64 (.ofNat (nat_lit 0))), (.bool false), (.str (sb [])), (.int .i64 (.ofNat (nat_lit 0))), (.slice none 0 true 0)] []) h fun x7 h =>
  bndC (f311 [x1] h) fun x10 h =>
  (f257_1 x1 x2 x3 x7 x10 h)

/- concord/kv.find -/
noncomputable def l355 : List (Nat × (List V → HT → Option J)) := []
noncomputable def t355 : Fns := tab l355
noncomputable def f355_0 (rc : List V → HT → Option J) (x0 : V) (x1 : V) (x10 : V) (x11 : V) (h : HT) : Option J := tstv x11 (bndV (rIaS 3 x0 x10) fun x13 =>
  bndV (rLdN h 3 x13) fun x14 =>
  bndN (rAlloc [(.str (sb [])), (.str (sb [])), (.int .i64 (.ofNat (nat_lit 0)))] []) h fun x7 h =>
  bndE (rSt h 3 x7 x14) h fun _ h =>
  bndV (rFa 0 x7) fun x15 =>
  bndV (rLd h x15) fun x16 =>
  bndV (rGeq x16 x1) fun x18 =>
  tstv x18 (bndV (rFa 0 x7) fun x20 =>
  bndV (rLd h x20) fun x21 =>
  bndV (rEql x21 x1) fun x23 =>
  some ⟨1, [x10, x23], h⟩)
  (bndV (rAdd x10 (.int .i64 (.ofNat (nat_lit 1)))) fun x24 =>
  rc [x24] h))
  (some ⟨0, [], h⟩)
noncomputable def f355 (vs : List V) (h : HT) : Option J := unc2 vs fun x0 x1 =>
  bndV (rLenS x0) fun x9 =>
  bndJ (loopF (fun rc vs h => unc1 vs fun x10 =>
  bndV (rLss x10 x9) fun x11 =>
  (f355_0 rc x0 x1 x10 x11 h)) 1000000 [(.int .i64 (.ofNat (nat_lit 0)))] h)
  fun j vs h => nsw j (bndV (rLenS x0) fun x26 =>
  ret1 (.tuple [x26, (.bool false)]) h)
  fun j => unc2 vs fun x4 x5 =>
  ret1 (.tuple [x4, x5]) h

/- concord/kv.Get -/
noncomputable def l313 : List (Nat × (List V → HT → Option J)) := [(355, f355)]
noncomputable def t313 : Fns := tab l313
noncomputable def f313_0 (x0 : V) (x1 : V) (h : HT) : Option J := bndN (rAlloc [(.str (sb [])), (.str (sb [])), (.int .i64 (.ofNat (nat_lit 0)))] []) h fun x4 h =>
  bndC (f355 [x0, x1] h) fun x11 h =>
  bndV (rExt 0 x11) fun x12 =>
  bndV (rExt 1 x11) fun x13 =>
  bndV (rNot x13) fun x15 =>
  tstv x15 (bndV (rBld [(.str (sb [])), (.str (sb [])), (.int .i64 (.ofNat (nat_lit 0)))] [] []) fun x16 =>
  bndE (rSt h 3 x4 x16) h fun _ h =>
  bndV (qLd h (some 3) [x4]) fun x900000 =>
  ret1 (.tuple [x900000, (.bool false)]) h)
  (bndV (rIaS 3 x0 x12) fun x19 =>
  bndV (rLdN h 3 x19) fun x20 =>
  bndE (rSt h 3 x4 x20) h fun _ h =>
  bndV (qLd h (some 3) [x4]) fun x900000 =>
  ret1 (.tuple [x900000, (.bool true)]) h)
noncomputable def f313 (vs : List V) (h : HT) : Option J := unc2 vs fun x0 x1 =>
  (f313_0 x0 x1 h)

/- slices.Insert[[]concord/api.Pair,concord/api.Pair] -/
noncomputable def l356 : List (Nat × (List V → HT → Option J)) := []
noncomputable def t356 : Fns := tab l356
noncomputable def f356_0 (x0 : V) (x1 : V) (x2 : V) (x14 : V) (x19 : V) (x22 : V) (h : HT) : Option J := tstv x22 (bndE (dApp h 3 40 [x0, x2]) h fun x25 h =>
  ret1 x25 h)
  (bndV (rAdd x19 x14) fun x28 =>
  bndV (kCapS [x0]) fun x30 =>
  bndV (rGtr x28 x30) fun x31 =>
  tstv x31 (bndV (kSlS 3 false true [x0, x1]) fun x34 =>
  bndV (rAdd x19 x14) fun x37 =>
  bndV (rSub x37 x1) fun x39 =>
  none)
  (bndV (rAdd x19 x14) fun x59 =>
  bndV (kSlS 3 false true [x0, x59]) fun x60 =>
  bndV (rAdd x1 x14) fun x65 =>
  bndV (kSlS 3 true false [x60, x65]) fun x66 =>
  none))
noncomputable def f356 (vs : List V) (h : HT) : Option J := unc3 vs fun x0 x1 x2 =>
  bndV (kSlS 3 true false [x0, x1]) fun x12 =>
  bndV (rLenS x2) fun x14 =>
  bndV (rEql x14 (.int .i64 (.ofNat (nat_lit 0)))) fun x16 =>
  tstv x16 (ret1 x0 h)
  (bndV (rLenS x0) fun x19 =>
  bndV (rEql x1 x19) fun x22 =>
  (f356_0 x0 x1 x2 x14 x19 x22 h))

/- concord/kv.Put -/
noncomputable def l314 : List (Nat × (List V → HT → Option J)) := [(70, f70), (355, f355), (356, f356)]
noncomputable def t314 : Fns := tab l314
noncomputable def f314_0 (x1 : V) (x2 : V) (x15 : V) (x25 : V) (x27 : V) (h : HT) : Option J := bndJ (tstv x27 (bndV (rBld [(.str (sb [])), (.str (sb [])), (.int .i64 (.ofNat (nat_lit 0)))] [(0, 1)] [x1]) fun x31 =>
  bndN (rBsl 3 1 [(.str (sb [])), (.str (sb [])), (.int .i64 (.ofNat (nat_lit 0)))] [(0, 3)] [x31]) h fun x32 h =>
  bndC (f356 [x25, x15, x32] h) fun x33 h =>
  some ⟨0, [x33], h⟩)
  (some ⟨0, [x25], h⟩))
  fun j vs h => unc1 vs fun x10 =>
  bndV (rIaS 3 x10 x15) fun x37 =>
  bndV (rFa 1 x37) fun x38 =>
  bndE (rSt h 1 x38 x2) h fun _ h =>
  bndV (rIaS 3 x10 x15) fun x41 =>
  bndV (rFa 2 x41) fun x42 =>
  bndV (rLd h x42) fun x43 =>
  bndV (rAdd x43 (.int .i64 (.ofNat (nat_lit 1)))) fun x44 =>
  bndV (rIaS 3 x10 x15) fun x45 =>
  bndV (rFa 2 x45) fun x46 =>
  bndE (rSt h 1 x46 x44) h fun _ h =>
  ret1 (.tuple [x10, (.int .i64 (.ofNat (nat_lit 0)))]) h
noncomputable def f314 (vs : List V) (h : HT) : Option J := unc3 vs fun x0 x1 x2 =>
  bndC (f355 [x0, x1] h) fun x14 h =>
  bndV (rExt 0 x14) fun x15 =>
  bndV (rExt 1 x14) fun x16 =>
  bndV (rNot x16) fun x18 =>
  bndC (gsel x18 true (retV (kMov [x0]) h) h) fun x20 h =>
  bndC (gsel x18 true (retV (rLenS x20) h) h) fun x21 h =>
  bndC (gsel x18 true (retV (rGeq x21 (.int .i64 (.ofNat (nat_lit 32)))) h) h) fun x22 h =>
  bndV (rPick x18 x22 (.bool false)) fun x23 =>
  tstv x23 (ret1 (.tuple [(.slice none 0 true 0), (.int .i64 (.ofNat (nat_lit 7)))]) h)
  (bndC (f70 [x0] h) fun x25 h =>
  bndV (rNot x16) fun x27 =>
  (f314_0 x1 x2 x15 x25 x27 h))

/- concord/state.done -/
noncomputable def l258 : List (Nat × (List V → HT → Option J)) := [(313, f313), (314, f314)]
noncomputable def t258 : Fns := tab l258
noncomputable def f258_0 (x0 : V) (x5 : V) (x6 : V) (x22 : V) (x42 : V) (h : HT) : Option J := bndV (rExt 0 x42) fun x43 =>
  bndV (rExt 1 x42) fun x44 =>
  bndV (rNeq x44 (.int .i64 (.ofNat (nat_lit 0)))) fun x46 =>
  tstv x46 (bndV (rBld [(.int .i64 (.ofNat (nat_lit 0))), (.bool false), (.str (sb [])), (.int .i64 (.ofNat (nat_lit 0))), (.slice none 0 true 0)] [(0, 1)] [x44]) fun x49 =>
  bndE (rSt h 5 x5 x49) h fun _ h =>
  bndV (qLd h (some 5) [x5]) fun x900000 =>
  ret1 (.tuple [x0, x900000]) h)
  (bndV (rFa 2 x6) fun x52 =>
  bndV (rLd h x52) fun x53 =>
  bndV (rAdd x53 (.int .i64 (.ofNat (nat_lit 1)))) fun x54 =>
  bndV (rBld [(.int .i64 (.ofNat (nat_lit 0))), (.bool false), (.str (sb [])), (.int .i64 (.ofNat (nat_lit 0))), (.slice none 0 true 0)] [(1, 1), (3, 1)] [x22, x54]) fun x55 =>
  bndE (rSt h 5 x5 x55) h fun _ h =>
  bndV (qLd h (some 5) [x5]) fun x900000 =>
  ret1 (.tuple [x43, x900000]) h)
noncomputable def f258_1 (x0 : V) (x3 : V) (x5 : V) (x6 : V) (x89 : V) (h : HT) : Option J := bndV (rLd h x89) fun x90 =>
  bndV (rFa 6 x3) fun x91 =>
  bndV (rLd h x91) fun x92 =>
  bndC (f314 [x0, x90, x92] h) fun x93 h =>
  bndV (rExt 0 x93) fun x94 =>
  bndV (rExt 1 x93) fun x95 =>
  bndV (rFa 1 x6) fun x97 =>
  bndV (rLd h x97) fun x98 =>
  bndV (rFa 2 x6) fun x99 =>
  bndV (rLd h x99) fun x100 =>
  bndV (rAdd x100 (.int .i64 (.ofNat (nat_lit 1)))) fun x101 =>
  bndV (rBld [(.int .i64 (.ofNat (nat_lit 0))), (.bool false), (.str (sb [])), (.int .i64 (.ofNat (nat_lit 0))), (.slice none 0 true 0)] [(1, 1), (2, 1), (3, 1)] [(.bool true), x98, x101]) fun x102 =>
  bndE (rSt h 5 x5 x102) h fun _ h =>
  bndV (qLd h (some 5) [x5]) fun x900000 =>
  ret1 (.tuple [x94, x900000]) h
noncomputable def f258_2 (x0 : V) (x3 : V) (x5 : V) (x6 : V) (x73 : V) (x76 : V) (h : HT) : Option J := bndC (gsel x73 false (retV (rFa 5 x3) h) h) fun x77 h =>
  bndC (gsel x73 false (retV (rLd h x77) h) h) fun x78 h =>
  bndC (gsel x73 false (retV (rNeq x76 x78) h) h) fun x79 h =>
  bndV (rPick x73 (.bool true) x79) fun x80 =>
  tstv x80 (bndV (rFa 1 x6) fun x82 =>
  bndV (rLd h x82) fun x83 =>
  bndV (rFa 2 x6) fun x84 =>
  bndV (rLd h x84) fun x85 =>
  bndV (rBld [(.int .i64 (.ofNat (nat_lit 0))), (.bool false), (.str (sb [])), (.int .i64 (.ofNat (nat_lit 0))), (.slice none 0 true 0)] [(2, 1), (3, 1)] [x83, x85]) fun x86 =>
  bndE (rSt h 5 x5 x86) h fun _ h =>
  bndV (qLd h (some 5) [x5]) fun x900000 =>
  ret1 (.tuple [x0, x900000]) h)
  (bndV (rFa 3 x3) fun x89 =>
  (f258_1 x0 x3 x5 x6 x89 h))
noncomputable def f258_3 (x0 : V) (x3 : V) (x5 : V) (x6 : V) (x22 : V) (x71 : V) (h : HT) : Option J := tstv x71 (bndV (rNot x22) fun x73 =>
  bndC (gsel x73 false (retV (rFa 1 x6) h) h) fun x75 h =>
  bndC (gsel x73 false (retV (rLd h x75) h) h) fun x76 h =>
  (f258_2 x0 x3 x5 x6 x73 x76 h))
  (bndV (rFa 3 x3) fun x105 =>
  bndV (rLd h x105) fun x106 =>
  bndV (rFa 4 x3) fun x107 =>
  bndV (rLd h x107) fun x108 =>
  bndV (rBld [(.str (sb [])), (.str (sb []))] [(0, 1), (1, 1)] [x106, x108]) fun x109 =>
  bndC (noF [x0, x109] h) fun x110 h =>
  bndV (rExt 0 x110) fun x111 =>
  bndV (rExt 1 x110) fun x112 =>
  bndV (rBld [(.int .i64 (.ofNat (nat_lit 0))), (.bool false), (.str (sb [])), (.int .i64 (.ofNat (nat_lit 0))), (.slice none 0 true 0)] [(1, 1), (4, 1)] [x112, x111]) fun x116 =>
  bndE (rSt h 5 x5 x116) h fun _ h =>
  bndV (qLd h (some 5) [x5]) fun x900000 =>
  ret1 (.tuple [x0, x900000]) h)
noncomputable def f258_4 (x0 : V) (x3 : V) (x5 : V) (x6 : V) (x22 : V) (x24 : V) (h : HT) : Option J := bndV (rEql x24 (.int .i64 (.ofNat (nat_lit 3)))) fun x57 =>
  tstv x57 (bndV (rFa 3 x3) fun x60 =>
  bndV (rLd h x60) fun x61 =>
  bndC (noF [x0, x61] h) fun x62 h =>
  bndV (rExt 0 x62) fun x63 =>
  bndV (rExt 1 x62) fun x64 =>
  bndV (rFa 2 x6) fun x67 =>
  bndV (rLd h x67) fun x68 =>
  bndV (rBld [(.int .i64 (.ofNat (nat_lit 0))), (.bool false), (.str (sb [])), (.int .i64 (.ofNat (nat_lit 0))), (.slice none 0 true 0)] [(1, 1), (3, 1)] [x22, x68]) fun x69 =>
  bndE (rSt h 5 x5 x69) h fun _ h =>
  bndV (qLd h (some 5) [x5]) fun x900000 =>
  ret1 (.tuple [x63, x900000]) h)
  (bndV (rEql x24 (.int .i64 (.ofNat (nat_lit 4)))) fun x71 =>
  (f258_3 x0 x3 x5 x6 x22 x71 h))
noncomputable def f258_5 (x0 : V) (x3 : V) (x5 : V) (x6 : V) (x22 : V) (x24 : V) (x26 : V) (h : HT) : Option J := tstv x26 (bndV (rFa 1 x6) fun x29 =>
  bndV (rLd h x29) fun x30 =>
  bndV (rFa 2 x6) fun x31 =>
  bndV (rLd h x31) fun x32 =>
  bndV (rBld [(.int .i64 (.ofNat (nat_lit 0))), (.bool false), (.str (sb [])), (.int .i64 (.ofNat (nat_lit 0))), (.slice none 0 true 0)] [(1, 1), (2, 1), (3, 1)] [x22, x30, x32]) fun x33 =>
  bndE (rSt h 5 x5 x33) h fun _ h =>
  bndV (qLd h (some 5) [x5]) fun x900000 =>
  ret1 (.tuple [x0, x900000]) h)
  (bndV (rEql x24 (.int .i64 (.ofNat (nat_lit 2)))) fun x35 =>
  tstv x35 (bndV (rFa 3 x3) fun x38 =>
  bndV (rLd h x38) fun x39 =>
  bndV (rFa 6 x3) fun x40 =>
  bndV (rLd h x40) fun x41 =>
  bndC (f314 [x0, x39, x41] h) fun x42 h =>
  (f258_0 x0 x5 x6 x22 x42 h))
  ((f258_4 x0 x3 x5 x6 x22 x24 h)))
noncomputable def f258 (vs : List V) (h : HT) : Option J := unc2 vs fun x0 x1 =>
  bndN (rBox x1) h fun x3 h =>
  bndN (rAlloc [(.int .i64 (.ofNat (nat_lit 0))), (.bool false), (.str (sb [])), (.int .i64 (.ofNat (nat_lit 0))), (.slice none 0 true 0)] []) h fun x5 h =>
  bndV (rFa 3 x3) fun x18 =>
  bndV (rLd h x18) fun x19 =>
  bndC (f313 [x0, x19] h) fun x20 h =>
  bndV (rExt 0 x20) fun x21 =>
  bndV (rExt 1 x20) fun x22 =>
  bndN (rAlloc [(.str (sb [])), (.str (sb [])), (.int .i64 (.ofNat (nat_lit 0)))] []) h fun x6 h =>
  bndE (rSt h 3 x6 x21) h fun _ h =>
  bndV (rFa 0 x3) fun x23 =>
  bndV (rLd h x23) fun x24 =>
  bndV (rEql x24 (.int .i64 (.ofNat (nat_lit 1)))) fun x26 =>
  (f258_5 x0 x3 x5 x6 x22 x24 x26 h)

/- concord/state.Apply -/
noncomputable def l195 : List (Nat × (List V → HT → Option J)) := [(48, f48), (203, f203), (257, f257), (258, f258), (259, f259)]
noncomputable def t195 : Fns := tab l195
noncomputable def f195_0 (x3 : V) (x4 : V) (x5 : V) (x9 : V) (x46 : V) (x50 : V) (h : HT) : Option J := bndV (rFa 1 x3) fun x51 =>
  bndV (rLd h x51) fun x52 =>
  bndV (rFa 2 x3) fun x53 =>
  bndV (rLd h x53) fun x54 =>
  bndV (rLdN h 5 x9) fun x55 =>
  bndV (rLdN h 5 x9) fun x58 =>
  bndC (f259 [x50, x52, x54, x55] h) fun x56 h =>
  chk1 (sameE (rLdN h 5 x9) x58) (bndV (rBld [(.slice none 0 true 0), (.int .i64 (.ofNat (nat_lit 0))), (.int .i64 (.ofNat (nat_lit 0))), (.bool false), (.str (sb [])), (.int .i64 (.ofNat (nat_lit 0))), (.slice none 0 true 0), (.int .i64 (.ofNat (nat_lit 0))), (.int .i64 (.ofNat (nat_lit 0))), (.bool false), (.str (sb [])), (.int .i64 (.ofNat (nat_lit 0))), (.slice none 0 true 0), (.int .i64 (.ofNat (nat_lit 0))), (.int .i64 (.ofNat (nat_lit 0))), (.bool false), (.str (sb [])), (.int .i64 (.ofNat (nat_lit 0))), (.slice none 0 true 0), (.int .i64 (.ofNat (nat_lit 0))), (.int .i64 (.ofNat (nat_lit 0))), (.bool false), (.str (sb [])), (.int .i64 (.ofNat (nat_lit 0))), (.slice none 0 true 0), (.int .i64 (.ofNat (nat_lit 0))), (.int .i64 (.ofNat (nat_lit 0))), (.bool false), (.str (sb [])), (.int .i64 (.ofNat (nat_lit 0))), (.slice none 0 true 0), (.int .i64 (.ofNat (nat_lit 0))), (.int .i64 (.ofNat (nat_lit 0))), (.bool false), (.str (sb [])), (.int .i64 (.ofNat (nat_lit 0))), (.slice none 0 true 0), (.int .i64 (.ofNat (nat_lit 0))), (.int .i64 (.ofNat (nat_lit 0))), (.bool false), (.str (sb [])), (.int .i64 (.ofNat (nat_lit 0))), (.slice none 0 true 0), (.int .i64 (.ofNat (nat_lit 0))), (.int .i64 (.ofNat (nat_lit 0))), (.bool false), (.str (sb [])), (.int .i64 (.ofNat (nat_lit 0))), (.slice none 0 true 0)] [(0, 1), (1, 48)] [x46, x56]) fun x57 =>
  bndE (rSt h 49 x4 x57) h fun _ h =>
  chk1 (sameE (rLdN h 5 x9) x58) (bndE (rSt h 5 x5 x58) h fun _ h =>
  bndV (qLd h (some 49) [x4]) fun x900000 =>
  bndV (qLd h (some 5) [x5]) fun x900001 =>
  ret1 (.tuple [x900000, x900001]) h))
noncomputable def f195_1 (x2 : V) (x3 : V) (x4 : V) (x5 : V) (x38 : V) (h : HT) : Option J := tstv x38 (bndV (rLdN h 49 x2) fun x39 =>
  bndV (rBld [(.int .i64 (.ofNat (nat_lit 0))), (.bool false), (.str (sb [])), (.int .i64 (.ofNat (nat_lit 0))), (.slice none 0 true 0)] [(0, 1)] [(.int .i64 (.ofNat (nat_lit 9)))]) fun x40 =>
  bndE (rSt h 49 x4 x39) h fun _ h =>
  bndE (rSt h 5 x5 x40) h fun _ h =>
  bndV (qLd h (some 49) [x4]) fun x900000 =>
  bndV (qLd h (some 5) [x5]) fun x900001 =>
  ret1 (.tuple [x900000, x900001]) h)
  (bndV (rFa 0 x2) fun x42 =>
  bndV (rLd h x42) fun x43 =>
  bndV (rLdN h 7 x3) fun x44 =>
  bndC (f258 [x43, x44] h) fun x45 h =>
  bndV (rExt 0 x45) fun x46 =>
  bndV (rExt 1 x45) fun x47 =>
  bndN (rAlloc [(.int .i64 (.ofNat (nat_lit 0))), (.bool false), (.str (sb [])), (.int .i64 (.ofNat (nat_lit 0))), (.slice none 0 true 0)] []) h fun x9 h =>
  bndE (rSt h 5 x9 x47) h fun _ h =>
  bndV (rFa 1 x2) fun x49 =>
  bndV (rLdN h 48 x49) fun x50 =>
  (f195_0 x3 x4 x5 x9 x46 x50 h))
noncomputable def f195_2 (x2 : V) (x3 : V) (x4 : V) (x5 : V) (x29 : V) (x30 : V) (h : HT) : Option J := bndV (rExt 1 x29) fun x31 =>
  bndN (rAlloc [(.int .i64 (.ofNat (nat_lit 0))), (.bool false), (.str (sb [])), (.int .i64 (.ofNat (nat_lit 0))), (.slice none 0 true 0)] []) h fun x7 h =>
  bndE (rSt h 5 x7 x31) h fun _ h =>
  bndV (rEql x30 (.int .i64 (.ofNat (nat_lit 2)))) fun x34 =>
  tstv x34 (bndV (rLdN h 49 x2) fun x35 =>
  bndV (rLdN h 5 x7) fun x36 =>
  bndE (rSt h 49 x4 x35) h fun _ h =>
  chk1 (sameE (rLdN h 5 x7) x36) (bndE (rSt h 5 x5 x36) h fun _ h =>
  bndV (qLd h (some 49) [x4]) fun x900000 =>
  bndV (qLd h (some 5) [x5]) fun x900001 =>
  ret1 (.tuple [x900000, x900001]) h))
  (bndV (rEql x30 (.int .i64 (.ofNat (nat_lit 3)))) fun x38 =>
  (f195_1 x2 x3 x4 x5 x38 h))
noncomputable def f195_3 (x2 : V) (x3 : V) (x4 : V) (x5 : V) (x19 : V) (h : HT) : Option J := tstv x19 (bndV (rLdN h 49 x2) fun x20 =>
  bndV (rBld [(.int .i64 (.ofNat (nat_lit 0))), (.bool false), (.str (sb [])), (.int .i64 (.ofNat (nat_lit 0))), (.slice none 0 true 0)] [(0, 1)] [(.int .i64 (.ofNat (nat_lit 1)))]) fun x21 =>
  bndE (rSt h 49 x4 x20) h fun _ h =>
  bndE (rSt h 5 x5 x21) h fun _ h =>
  bndV (qLd h (some 49) [x4]) fun x900000 =>
  bndV (qLd h (some 5) [x5]) fun x900001 =>
  ret1 (.tuple [x900000, x900001]) h)
  (bndV (rFa 1 x2) fun x23 =>
  bndV (rLdN h 48 x23) fun x24 =>
  bndV (rFa 1 x3) fun x25 =>
  bndV (rLd h x25) fun x26 =>
  bndV (rFa 2 x3) fun x27 =>
  bndV (rLd h x27) fun x28 =>
  bndC (f257 [x24, x26, x28] h) fun x29 h =>
  bndV (rExt 0 x29) fun x30 =>
  (f195_2 x2 x3 x4 x5 x29 x30 h))
noncomputable def f195_4 (x2 : V) (x3 : V) (x4 : V) (x5 : V) (h : HT) : Option J := bndV (rLdN h 7 x3) fun x12 =>
  bndV (rBld [(.int .i64 (.ofNat (nat_lit 0))), (.int .i64 (.ofNat (nat_lit 0))), (.int .i64 (.ofNat (nat_lit 0))), (.str (sb [])), (.str (sb [])), (.str (sb [])), (.str (sb []))] [] []) fun x13 =>
  bndV (kEqF false [.i, .i, .i, .s, .s, .s, .s] [x12, x13]) fun x14 =>
  tstv x14 (bndV (rLdN h 49 x2) fun x15 =>
  bndV (rBld [(.int .i64 (.ofNat (nat_lit 0))), (.bool false), (.str (sb [])), (.int .i64 (.ofNat (nat_lit 0))), (.slice none 0 true 0)] [] []) fun x16 =>
  bndE (rSt h 49 x4 x15) h fun _ h =>
  bndE (rSt h 5 x5 x16) h fun _ h =>
  bndV (qLd h (some 49) [x4]) fun x900000 =>
  bndV (qLd h (some 5) [x5]) fun x900001 =>
  ret1 (.tuple [x900000, x900001]) h)
  (bndV (rLdN h 7 x3) fun x17 =>
  bndC (f48 [x17] h) fun x18 h =>
  bndV (rNot x18) fun x19 =>
  (f195_3 x2 x3 x4 x5 x19 h))
noncomputable def f195 (vs : List V) (h : HT) : Option J := unc2 vs fun x0 x1 =>
  bndN (rBox x0) h fun x2 h =>
  bndN (rBox x1) h fun x3 h =>
  bndN (rAlloc [(.slice none 0 true 0), (.int .i64 (.ofNat (nat_lit 0))), (.int .i64 (.ofNat (nat_lit 0))), (.bool false), (.str (sb [])), (.int .i64 (.ofNat (nat_lit 0))), (.slice none 0 true 0), (.int .i64 (.ofNat (nat_lit 0))), (.int .i64 (.ofNat (nat_lit 0))), (.bool false), (.str (sb [])), (.int .i64 (.ofNat (nat_lit 0))), (.slice none 0 true 0), (.int .i64 (.ofNat (nat_lit 0))), (.int .i64 (.ofNat (nat_lit 0))), (.bool false), (.str (sb [])), (.int .i64 (.ofNat (nat_lit 0))), (.slice none 0 true 0), (.int .i64 (.ofNat (nat_lit 0))), (.int .i64 (.ofNat (nat_lit 0))), (.bool false), (.str (sb [])), (.int .i64 (.ofNat (nat_lit 0))), (.slice none 0 true 0), (.int .i64 (.ofNat (nat_lit 0))), (.int .i64 (.ofNat (nat_lit 0))), (.bool false), (.str (sb [])), (.int .i64 (.ofNat (nat_lit 0))), (.slice none 0 true 0), (.int .i64 (.ofNat (nat_lit 0))), (.int .i64 (.ofNat (nat_lit 0))), (.bool false), (.str (sb [])), (.int .i64 (.ofNat (nat_lit 0))), (.slice none 0 true 0), (.int .i64 (.ofNat (nat_lit 0))), (.int .i64 (.ofNat (nat_lit 0))), (.bool false), (.str (sb [])), (.int .i64 (.ofNat (nat_lit 0))), (.slice none 0 true 0), (.int .i64 (.ofNat (nat_lit 0))), (.int .i64 (.ofNat (nat_lit 0))), (.bool false), (.str (sb [])), (.int .i64 (.ofNat (nat_lit 0))), (.slice none 0 true 0)] []) h fun x4 h =>
  bndN (rAlloc [(.int .i64 (.ofNat (nat_lit 0))), (.bool false), (.str (sb [])), (.int .i64 (.ofNat (nat_lit 0))), (.slice none 0 true 0)] []) h fun x5 h =>
  bndV (rLdN h 49 x2) fun x10 =>
  bndC (f203 [x10] h) fun x11 h =>
  bndE (rSt h 49 x2 x11) h fun _ h =>
  (f195_4 x2 x3 x4 x5 h)

/- (*concord/node.Node).run -/
noncomputable def l113 : List (Nat × (List V → HT → Option J)) := [(193, f193), (194, f194), (195, f195)]
noncomputable def t113 : Fns := tab l113
noncomputable def f113_0 (rc : List V → HT → Option J) (x0 : V) (x20 : V) (x41 : V) (x49 : V) (x51 : V) (h : HT) : Option J := bndV (rLd h x51) fun x52 =>
  bndV (rMax x49 x52) fun x53 =>
  bndV (rNilc x0) fun x54 =>
  bndV (rFa 55 x54) fun x55 =>
  bndV (rIaA 7 1 x55 x41) fun x56 =>
  bndE (rSt h 1 x56 x53) h fun _ h =>
  bndV (rNilc x0) fun x58 =>
  bndV (rFa 69 x58) fun x59 =>
  bndV (rLd h x59) fun x60 =>
  bndV (rAdd x60 (.int .i64 (.ofNat (nat_lit 1)))) fun x61 =>
  bndV (rNilc x0) fun x62 =>
  bndV (rFa 69 x62) fun x63 =>
  bndE (rSt h 1 x63 x61) h fun _ h =>
  bndV (rAdd x20 (.int .i64 (.ofNat (nat_lit 1)))) fun x64 =>
  rc [x64] h
noncomputable def f113_1 (rc : List V → HT → Option J) (x0 : V) (x5 : V) (x20 : V) (x34 : V) (x36 : V) (h : HT) : Option J := bndV (rFa 6 x36) fun x37 =>
  bndE (rSt h 49 x37 x34) h fun _ h =>
  bndV (rFa 0 x5) fun x39 =>
  bndV (rFa 0 x39) fun x40 =>
  bndV (rLd h x40) fun x41 =>
  bndV (rFa 0 x5) fun x43 =>
  bndV (rFa 0 x43) fun x44 =>
  bndV (rLd h x44) fun x45 =>
  bndV (rNilc x0) fun x46 =>
  bndV (rFa 55 x46) fun x47 =>
  bndV (rIaA 7 1 x47 x45) fun x48 =>
  bndV (rLd h x48) fun x49 =>
  bndV (rFa 0 x5) fun x50 =>
  bndV (rFa 1 x50) fun x51 =>
  (f113_0 rc x0 x20 x41 x49 x51 h)
noncomputable def f113_2 (rc : List V → HT → Option J) (x0 : V) (x16 : V) (x20 : V) (h : HT) : Option J := bndV (rIaS 23 x16 x20) fun x22 =>
  bndV (rLdN h 23 x22) fun x23 =>
  bndN (rAlloc [(.int .i64 (.ofNat (nat_lit 0))), (.int .i64 (.ofNat (nat_lit 0))), (.int .i64 (.ofNat (nat_lit 0))), (.int .i64 (.ofNat (nat_lit 0))), (.int .i64 (.ofNat (nat_lit 0))), (.int .i64 (.ofNat (nat_lit 0))), (.int .i64 (.ofNat (nat_lit 0))), (.int .i64 (.ofNat (nat_lit 0))), (.int .i64 (.ofNat (nat_lit 0))), (.int .i64 (.ofNat (nat_lit 0))), (.str (sb [])), (.str (sb [])), (.str (sb [])), (.str (sb [])), (.int .i64 (.ofNat (nat_lit 0))), (.int .i64 (.ofNat (nat_lit 0))), (.int .i64 (.ofNat (nat_lit 0))), (.int .i64 (.ofNat (nat_lit 0))), (.int .i64 (.ofNat (nat_lit 0))), (.int .i64 (.ofNat (nat_lit 0))), (.int .i64 (.ofNat (nat_lit 0))), (.int .i64 (.ofNat (nat_lit 0))), (.bool false)] []) h fun x5 h =>
  bndE (rSt h 23 x5 x23) h fun _ h =>
  bndV (rNilc x0) fun x27 =>
  bndV (rFa 6 x27) fun x28 =>
  bndV (rLdN h 49 x28) fun x29 =>
  bndV (rFa 2 x5) fun x30 =>
  bndV (rFa 5 x30) fun x31 =>
  bndV (rLdN h 7 x31) fun x32 =>
  bndC (f195 [x29, x32] h) fun x33 h =>
  bndV (rExt 0 x33) fun x34 =>
  bndV (rExt 1 x33) fun x35 =>
  bndV (rNilc x0) fun x36 =>
  (f113_1 rc x0 x5 x20 x34 x36 h)
noncomputable def f113_3 (rc : List V → HT → Option J) (x0 : V) (x17 : V) (x66 : V) (vs : List V) (h : HT) : Option J := unc1 vs fun x67 =>
  bndV (rLss x67 x66) fun x68 =>
  tstv x68 (bndV (rIaS 2 x17 x67) fun x69 =>
  bndV (rLdN h 2 x69) fun x70 =>
  bndN (rAlloc [(.int .i64 (.ofNat (nat_lit 0))), (.int .i64 (.ofNat (nat_lit 0)))] []) h fun x7 h =>
  bndE (rSt h 2 x7 x70) h fun _ h =>
  bndV (rFa 0 x7) fun x72 =>
  bndV (rLd h x72) fun x73 =>
  bndV (rFa 1 x7) fun x74 =>
  bndV (rLd h x74) fun x75 =>
  bndC (noF [x0, x73, x75] h) fun x76 h =>
  bndV (rAdd x67 (.int .i64 (.ofNat (nat_lit 1)))) fun x77 =>
  rc [x77] h)
  (some ⟨0, [], h⟩)
noncomputable def f113_4 (x0 : V) (x15 : V) (h : HT) : Option J := bndV (rExt 0 x15) fun x16 =>
  bndV (rExt 1 x15) fun x17 =>
  bndV (rLenS x16) fun x19 =>
  bndJ (loopF (fun rc vs h => unc1 vs fun x20 =>
  bndV (rLss x20 x19) fun x21 =>
  tstv x21 ((f113_2 rc x0 x16 x20 h))
  (some ⟨0, [], h⟩)) 1000000 [(.int .i64 (.ofNat (nat_lit 0)))] h)
  fun j vs h => bndV (rLenS x17) fun x66 =>
  bndJ (loopF (fun rc vs h => (f113_3 rc x0 x17 x66 vs h)) 1000000 [(.int .i64 (.ofNat (nat_lit 0)))] h)
  fun j vs h => ret1 (.tuple []) h
noncomputable def f113 (vs : List V) (h : HT) : Option J := unc1 vs fun x0 =>
  bndV (rNilc x0) fun x10 =>
  bndV (rFa 55 x10) fun x11 =>
  bndV (rLdN h 7 x11) fun x12 =>
  bndC (f194 [x0] h) fun x14 h =>
  chk1 (sameE (rLdN h 7 x11) x12) (bndC (f193 [x12, x14] h) fun x15 h =>
  (f113_4 x0 x15 h))

/- (*concord/node.Node).answer -/
noncomputable def l114 : List (Nat × (List V → HT → Option J)) := [(70, f70)]
noncomputable def t114 : Fns := tab l114
noncomputable def f114_0 (x0 : V) (x2 : V) (x4 : V) (x6 : V) (h : HT) : Option J := bndV (rNilc x0) fun x39 =>
  bndV (rFa 73 x39) fun x40 =>
  bndV (rLd h x40) fun x41 =>
  bndV (rFa 0 x4) fun x42 =>
  bndV (rLd h x42) fun x43 =>
  bndV (rFa 1 x4) fun x44 =>
  bndV (rLd h x44) fun x45 =>
  bndV (rLdN h 5 x6) fun x46 =>
  bndV (rBld [(.int .i64 (.ofNat (nat_lit 0))), (.int .i64 (.ofNat (nat_lit 0))), (.int .i64 (.ofNat (nat_lit 0))), (.bool false), (.str (sb [])), (.int .i64 (.ofNat (nat_lit 0))), (.slice none 0 true 0)] [(0, 1), (1, 1), (2, 5)] [x43, x45, x46]) fun x47 =>
  bndN (rBsl 7 1 [(.int .i64 (.ofNat (nat_lit 0))), (.int .i64 (.ofNat (nat_lit 0))), (.int .i64 (.ofNat (nat_lit 0))), (.bool false), (.str (sb [])), (.int .i64 (.ofNat (nat_lit 0))), (.slice none 0 true 0)] [(0, 7)] [x47]) h fun x48 h =>
  bndE (dApp h 7 80 [x41, x48]) h fun x49 h =>
  bndV (rNilc x0) fun x50 =>
  bndV (rFa 73 x50) fun x51 =>
  bndE (rSt h 1 x51 x49) h fun _ h =>
  some ⟨0, [x2], h⟩
noncomputable def f114_1 (x0 : V) (x2 : V) (x4 : V) (x5 : V) (x30 : V) (h : HT) : Option J := tstv x30 (bndV (rFa 1 x5) fun x31 =>
  bndV (rLdN h 5 x31) fun x32 =>
  bndN (rAlloc [(.int .i64 (.ofNat (nat_lit 0))), (.bool false), (.str (sb [])), (.int .i64 (.ofNat (nat_lit 0))), (.slice none 0 true 0)] []) h fun x6 h =>
  bndE (rSt h 5 x6 x32) h fun _ h =>
  bndV (rFa 4 x6) fun x33 =>
  bndV (rLd h x33) fun x34 =>
  bndC (f70 [x34] h) fun x35 h =>
  bndV (rFa 4 x6) fun x36 =>
  bndE (rSt h 1 x36 x35) h fun _ h =>
  (f114_0 x0 x2 x4 x6 h))
  (bndV (rFa 0 x5) fun x53 =>
  bndV (rLd h x53) fun x54 =>
  bndV (rFa 1 x4) fun x55 =>
  bndV (rLd h x55) fun x56 =>
  bndV (rLss x54 x56) fun x57 =>
  bndJ (tstv x57 (bndV (rLdN h 2 x4) fun x59 =>
  bndN (rBsl 2 1 [(.int .i64 (.ofNat (nat_lit 0))), (.int .i64 (.ofNat (nat_lit 0)))] [(0, 2)] [x59]) h fun x60 h =>
  bndE (dApp h 2 16 [x2, x60]) h fun x61 h =>
  some ⟨0, [x61], h⟩)
  (some ⟨0, [x2], h⟩))
  fun j vs h => unc1 vs fun x2 =>
  some ⟨0, [x2], h⟩)
noncomputable def f114_2 (rc : List V → HT → Option J) (x0 : V) (x2 : V) (x4 : V) (x12 : V) (x19 : V) (x21 : V) (h : HT) : Option J := bndV (rFa 1 x21) fun x22 =>
  bndV (rIaA 8 6 x22 x19) fun x23 =>
  bndV (rLdN h 6 x23) fun x24 =>
  bndN (rAlloc [(.int .i64 (.ofNat (nat_lit 0))), (.int .i64 (.ofNat (nat_lit 0))), (.bool false), (.str (sb [])), (.int .i64 (.ofNat (nat_lit 0))), (.slice none 0 true 0)] []) h fun x5 h =>
  bndE (rSt h 6 x5 x24) h fun _ h =>
  bndV (rFa 0 x5) fun x26 =>
  bndV (rLd h x26) fun x27 =>
  bndV (rFa 1 x4) fun x28 =>
  bndV (rLd h x28) fun x29 =>
  bndV (rEql x27 x29) fun x30 =>
  bndJ ((f114_1 x0 x2 x4 x5 x30 h))
  fun j vs h => unc1 vs fun x2 =>
  bndV (rAdd x12 (.int .i64 (.ofNat (nat_lit 1)))) fun x62 =>
  rc [x2, x62] h
noncomputable def f114_3 (x0 : V) (x10 : V) (x11 : V) (h : HT) : Option J := loopF (fun rc vs h => unc2 vs fun x2 x12 =>
  bndV (rLss x12 x11) fun x13 =>
  tstv x13 (bndV (rIaS 2 x10 x12) fun x14 =>
  bndV (rLdN h 2 x14) fun x15 =>
  bndN (rAlloc [(.int .i64 (.ofNat (nat_lit 0))), (.int .i64 (.ofNat (nat_lit 0)))] []) h fun x4 h =>
  bndE (rSt h 2 x4 x15) h fun _ h =>
  bndV (rFa 0 x4) fun x17 =>
  bndV (rLd h x17) fun x18 =>
  bndV (rSub x18 (.int .i64 (.ofNat (nat_lit 1)))) fun x19 =>
  bndV (rNilc x0) fun x20 =>
  bndV (rFa 6 x20) fun x21 =>
  (f114_2 rc x0 x2 x4 x12 x19 x21 h))
  (some ⟨0, [x2], h⟩)) 1000000 [(.slice none 0 true 0), (.int .i64 (.ofNat (nat_lit 0)))] h
noncomputable def f114 (vs : List V) (h : HT) : Option J := unc1 vs fun x0 =>
  bndV (rNilc x0) fun x8 =>
  bndV (rFa 71 x8) fun x9 =>
  bndV (rLd h x9) fun x10 =>
  bndV (rLenS x10) fun x11 =>
  bndJ ((f114_3 x0 x10 x11 h))
  fun j vs h => unc1 vs fun x2 =>
  bndV (rNilc x0) fun x65 =>
  bndV (rFa 71 x65) fun x66 =>
  bndE (rSt h 1 x66 x2) h fun _ h =>
  ret1 (.tuple []) h

/- (*concord/front.Fronts).Stable -/
noncomputable def l199 : List (Nat × (List V → HT → Option J)) := []
noncomputable def t199 : Fns := tab l199
noncomputable def f199_0 (rc : List V → HT → Option J) (x3 : V) (x20 : V) (x28 : V) (h : HT) : Option J := bndJ (loopF (fun rc vs h => unc1 vs fun x29 =>
  bndV (rLss x29 (.int .i64 (.ofNat (nat_lit 7)))) fun x30 =>
  tstv x30 (bndV (rIxA 7 1 x28 x29) fun x32 =>
  bndV (rIaA 7 1 x3 x29) fun x35 =>
  bndV (rLd h x35) fun x36 =>
  bndV (rMin x36 x32) fun x38 =>
  bndV (rIaA 7 1 x3 x29) fun x39 =>
  bndE (rSt h 1 x39 x38) h fun _ h =>
  bndV (rAdd x29 (.int .i64 (.ofNat (nat_lit 1)))) fun x40 =>
  rc [x40] h)
  (some ⟨0, [], h⟩)) 1000000 [(.int .i64 (.ofNat (nat_lit 0)))] h)
  fun j vs h => bndV (rAdd x20 (.int .i64 (.ofNat (nat_lit 1)))) fun x41 =>
  rc [x41] h
noncomputable def f199_1 (x0 : V) (x2 : V) (x3 : V) (x19 : V) (h : HT) : Option J := bndJ (loopF (fun rc vs h => unc1 vs fun x20 =>
  bndV (rLss x20 x19) fun x21 =>
  tstv x21 (bndV (rNilc x0) fun x25 =>
  bndV (rFa 2 x25) fun x26 =>
  bndV (rIaA 7 7 x26 x20) fun x27 =>
  bndV (rLdN h 7 x27) fun x28 =>
  (f199_0 rc x3 x20 x28 h))
  (some ⟨0, [], h⟩)) 1000000 [(.int .i64 (.ofNat (nat_lit 0)))] h)
  fun j vs h => bndV (rLdN h 7 x3) fun x42 =>
  bndE (rSt h 7 x2 x42) h fun _ h =>
  bndV (qLd h (some 7) [x2]) fun x900000 =>
  ret1 x900000 h
noncomputable def f199 (vs : List V) (h : HT) : Option J := unc1 vs fun x0 =>
  bndN (rAlloc [(.int .i64 (.ofNat (nat_lit 0))), (.int .i64 (.ofNat (nat_lit 0))), (.int .i64 (.ofNat (nat_lit 0))), (.int .i64 (.ofNat (nat_lit 0))), (.int .i64 (.ofNat (nat_lit 0))), (.int .i64 (.ofNat (nat_lit 0))), (.int .i64 (.ofNat (nat_lit 0)))] []) h fun x2 h =>
  bndV (rNilc x0) fun x9 =>
  bndV (rFa 1 x9) fun x10 =>
  bndV (rLd h x10) fun x11 =>
  bndV (rNilc x0) fun x12 =>
  bndV (rFa 2 x12) fun x13 =>
  bndV (rIaA 7 7 x13 x11) fun x14 =>
  bndV (rLdN h 7 x14) fun x15 =>
  bndN (rAlloc [(.int .i64 (.ofNat (nat_lit 0))), (.int .i64 (.ofNat (nat_lit 0))), (.int .i64 (.ofNat (nat_lit 0))), (.int .i64 (.ofNat (nat_lit 0))), (.int .i64 (.ofNat (nat_lit 0))), (.int .i64 (.ofNat (nat_lit 0))), (.int .i64 (.ofNat (nat_lit 0)))] []) h fun x3 h =>
  bndE (rSt h 7 x3 x15) h fun _ h =>
  bndV (rNilc x0) fun x17 =>
  bndV (rFa 0 x17) fun x18 =>
  bndV (rLd h x18) fun x19 =>
  (f199_1 x0 x2 x3 x19 h)

/- (*concord/log.Log).Cut -/
noncomputable def l265 : List (Nat × (List V → HT → Option J)) := []
noncomputable def t265 : Fns := tab l265

noncomputable def f265 (vs : List V) (h : HT) : Option J := unc1 vs fun x0 =>
  bndN (rAlloc [(.int .i64 (.ofNat (nat_lit 0))), (.int .i64 (.ofNat (nat_lit 0))), (.int .i64 (.ofNat (nat_lit 0))), (.int .i64 (.ofNat (nat_lit 0))), (.int .i64 (.ofNat (nat_lit 0))), (.int .i64 (.ofNat (nat_lit 0))), (.int .i64 (.ofNat (nat_lit 0)))] []) h fun x2 h =>
  bndV (rNilc x0) fun x4 =>
  bndV (rFa 1 x4) fun x5 =>
  bndV (rLdN h 7 x5) fun x6 =>
  bndE (rSt h 7 x2 x6) h fun _ h =>
  bndV (qLd h (some 7) [x2]) fun x900000 =>
  ret1 x900000 h

/- (*concord/core.Core).Cut -/
noncomputable def l200 : List (Nat × (List V → HT → Option J)) := [(265, f265)]
noncomputable def t200 : Fns := tab l200

noncomputable def f200 (vs : List V) (h : HT) : Option J := unc1 vs fun x0 =>
  bndN (rAlloc [(.int .i64 (.ofNat (nat_lit 0))), (.int .i64 (.ofNat (nat_lit 0))), (.int .i64 (.ofNat (nat_lit 0))), (.int .i64 (.ofNat (nat_lit 0))), (.int .i64 (.ofNat (nat_lit 0))), (.int .i64 (.ofNat (nat_lit 0))), (.int .i64 (.ofNat (nat_lit 0)))] []) h fun x2 h =>
  bndV (rNilc x0) fun x4 =>
  bndV (rFa 2 x4) fun x5 =>
  bndV (rLd h x5) fun x6 =>
  bndC (f265 [x6] h) fun x7 h =>
  bndE (rSt h 7 x2 x7) h fun _ h =>
  bndV (qLd h (some 7) [x2]) fun x900000 =>
  ret1 x900000 h

/- (*concord/node.Node).trim -/
noncomputable def l117 : List (Nat × (List V → HT → Option J)) := [(199, f199), (200, f200)]
noncomputable def t117 : Fns := tab l117
noncomputable def f117_0 (rc : List V → HT → Option J) (x6 : V) (x8 : V) (x9 : V) (x56 : V) (x66 : V) (x67 : V) (h : HT) : Option J := bndV (rExt 1 x66) fun x68 =>
  bndE (rSt h 21 x9 x67) h fun _ h =>
  bndJ (tstv x68 (bndV (rLdN h 2 x8) fun x71 =>
  bndV (rLdN h 21 x9) fun x72 =>
  bndC (noF [x71, x72] h) fun x73 h =>
  bndC (noF [x73] h) fun x74 h =>
  bndN (rBsl 1 1 [(.slice none 0 true 0)] [(0, 1)] [x74]) h fun x75 h =>
  bndE (dApp h 1 24 [x6, x75]) h fun x76 h =>
  some ⟨0, [x76], h⟩)
  (some ⟨0, [x6], h⟩))
  fun j vs h => unc1 vs fun x6 =>
  bndV (rAdd x56 (.int .i64 (.ofNat (nat_lit 1)))) fun x77 =>
  rc [x6, x77] h
noncomputable def f117_1 (rc : List V → HT → Option J) (x0 : V) (x6 : V) (x54 : V) (x55 : V) (x56 : V) (h : HT) : Option J := bndV (rLss x56 x55) fun x57 =>
  tstv x57 (bndV (rIaS 2 x54 x56) fun x58 =>
  bndV (rLdN h 2 x58) fun x59 =>
  bndN (rAlloc [(.int .i64 (.ofNat (nat_lit 0))), (.int .i64 (.ofNat (nat_lit 0)))] []) h fun x8 h =>
  bndE (rSt h 2 x8 x59) h fun _ h =>
  bndV (rNilc x0) fun x62 =>
  bndV (rFa 4 x62) fun x63 =>
  bndV (rLd h x63) fun x64 =>
  bndV (rLdN h 2 x8) fun x65 =>
  bndN (rAlloc [(.int .i64 (.ofNat (nat_lit 0))), (.int .i64 (.ofNat (nat_lit 0))), (.int .i64 (.ofNat (nat_lit 0))), (.int .i64 (.ofNat (nat_lit 0))), (.int .i64 (.ofNat (nat_lit 0))), (.int .i64 (.ofNat (nat_lit 0))), (.int .i64 (.ofNat (nat_lit 0))), (.int .i64 (.ofNat (nat_lit 0))), (.str (sb [])), (.str (sb [])), (.str (sb [])), (.str (sb [])), (.int .i64 (.ofNat (nat_lit 0))), (.int .i64 (.ofNat (nat_lit 0))), (.int .i64 (.ofNat (nat_lit 0))), (.int .i64 (.ofNat (nat_lit 0))), (.int .i64 (.ofNat (nat_lit 0))), (.int .i64 (.ofNat (nat_lit 0))), (.int .i64 (.ofNat (nat_lit 0))), (.int .i64 (.ofNat (nat_lit 0))), (.bool false)] []) h fun x9 h =>
  bndC (noF [x64, x65] h) fun x66 h =>
  bndV (rExt 0 x66) fun x67 =>
  (f117_0 rc x6 x8 x9 x56 x66 x67 h))
  (some ⟨0, [x6], h⟩)
noncomputable def f117_2 (x0 : V) (x49 : V) (x54 : V) (h : HT) : Option J := bndV (rLenS x54) fun x55 =>
  bndJ (loopF (fun rc vs h => unc2 vs fun x6 x56 =>
  (f117_1 rc x0 x6 x54 x55 x56 h)) 1000000 [x49, (.int .i64 (.ofNat (nat_lit 0)))] h)
  fun j vs h => unc1 vs fun x6 =>
  bndV (rNilc x0) fun x79 =>
  bndV (rFa 3 x79) fun x80 =>
  bndV (rLd h x80) fun x81 =>
  bndC (noF [x81, x6] h) fun x83 h =>
  bndV (rNeq x83 (.int .i64 (.ofNat (nat_lit 0)))) fun x84 =>
  tstv x84 (bndC (noF [x0] h) fun x86 h =>
  ret1 (.tuple []) h)
  (ret1 (.tuple []) h)
noncomputable def f117_3 (x0 : V) (x2 : V) (x38 : V) (h : HT) : Option J := bndV (rFa 4 x38) fun x39 =>
  bndV (rLd h x39) fun x40 =>
  bndV (rLdN h 7 x2) fun x41 =>
  bndC (noF [x40, x41] h) fun x42 h =>
  bndV (rNilc x0) fun x44 =>
  bndV (rFa 4 x44) fun x45 =>
  bndV (rLd h x45) fun x46 =>
  bndC (f200 [x46] h) fun x47 h =>
  bndC (noF [x47] h) fun x48 h =>
  bndN (rBsl 1 1 [(.slice none 0 true 0)] [(0, 1)] [x48]) h fun x49 h =>
  bndV (rNilc x0) fun x51 =>
  bndV (rFa 4 x51) fun x52 =>
  bndV (rLd h x52) fun x53 =>
  bndC (noF [x53] h) fun x54 h =>
  (f117_2 x0 x49 x54 h)
noncomputable def f117_4 (x0 : V) (x2 : V) (x3 : V) (h : HT) : Option J := bndJ (loopF (fun rc vs h => unc2 vs fun x4 x21 =>
  bndV (rLss x21 (.int .i64 (.ofNat (nat_lit 7)))) fun x22 =>
  tstv x22 (bndV (rIaA 7 1 x2 x21) fun x26 =>
  bndV (rLd h x26) fun x27 =>
  bndV (rIaA 7 1 x3 x21) fun x29 =>
  bndV (rLd h x29) fun x30 =>
  bndV (rSub x27 x30) fun x31 =>
  bndV (rMax x31 (.int .i64 (.ofNat (nat_lit 0)))) fun x32 =>
  bndV (rAdd x4 x32) fun x33 =>
  bndV (rAdd x21 (.int .i64 (.ofNat (nat_lit 1)))) fun x34 =>
  rc [x33, x34] h)
  (some ⟨0, [x4], h⟩)) 1000000 [(.int .i64 (.ofNat (nat_lit 0))), (.int .i64 (.ofNat (nat_lit 0)))] h)
  fun j vs h => unc1 vs fun x4 =>
  bndV (rLss x4 (.int .i64 (.ofNat (nat_lit 8)))) fun x36 =>
  tstv x36 (ret1 (.tuple []) h)
  (bndV (rNilc x0) fun x38 =>
  (f117_3 x0 x2 x38 h))
noncomputable def f117 (vs : List V) (h : HT) : Option J := unc1 vs fun x0 =>
  bndV (rNilc x0) fun x12 =>
  bndV (rFa 5 x12) fun x13 =>
  bndV (rLd h x13) fun x14 =>
  bndV (rNilc x0) fun x17 =>
  bndV (rFa 4 x17) fun x18 =>
  bndV (rLd h x18) fun x19 =>
  bndN (rAlloc [(.int .i64 (.ofNat (nat_lit 0))), (.int .i64 (.ofNat (nat_lit 0))), (.int .i64 (.ofNat (nat_lit 0))), (.int .i64 (.ofNat (nat_lit 0))), (.int .i64 (.ofNat (nat_lit 0))), (.int .i64 (.ofNat (nat_lit 0))), (.int .i64 (.ofNat (nat_lit 0)))] []) h fun x2 h =>
  bndN (rAlloc [(.int .i64 (.ofNat (nat_lit 0))), (.int .i64 (.ofNat (nat_lit 0))), (.int .i64 (.ofNat (nat_lit 0))), (.int .i64 (.ofNat (nat_lit 0))), (.int .i64 (.ofNat (nat_lit 0))), (.int .i64 (.ofNat (nat_lit 0))), (.int .i64 (.ofNat (nat_lit 0)))] []) h fun x3 h =>
  bndC (f199 [x14] h) fun x15 h =>
  chk1 (sameE (rLd h x18) x19) (bndC (f200 [x19] h) fun x20 h =>
  bndE (rSt h 7 x2 x15) h fun _ h =>
  bndE (rSt h 7 x3 x20) h fun _ h =>
  (f117_4 x0 x2 x3 h))

/- (*concord/node.Node).settle -/
noncomputable def l45 : List (Nat × (List V → HT → Option J)) := [(112, f112), (113, f113), (114, f114), (117, f117)]
noncomputable def t45 : Fns := tab l45
noncomputable def f45_0 (x0 : V) (x19 : V) (x21 : V) (x22 : V) (h : HT) : Option J := bndC (gsel x19 true (retV (rNilc x22) h) h) fun x23 h =>
  bndC (gsel x19 true (retV (rFa 55 x23) h) h) fun x24 h =>
  bndC (gsel x19 true (retV (rLdN h 7 x24) h) h) fun x25 h =>
  bndC (gsel x19 true (retV (kMov [x0]) h) h) fun x26 h =>
  bndC (gsel x19 true (retV (rNilc x26) h) h) fun x27 h =>
  bndC (gsel x19 true (retV (rFa 6 x27) h) h) fun x28 h =>
  bndC (gsel x19 true (retV (rLdN h 49 x28) h) h) fun x29 h =>
  bndC (gsel x19 true (noF [x25, x29] h) h) fun x30 h =>
  bndC (gsel x19 true (noF [x21, x30] h) h) fun x31 h =>
  bndC (gsel x19 true (retV (rNot x31) h) h) fun x32 h =>
  bndV (rPick x19 x32 (.bool false)) fun x33 =>
  tstv x33 (ret1 (.tuple []) h)
  (bndC (f117 [x0] h) fun x35 h =>
  ret1 (.tuple []) h)
noncomputable def f45_1 (x0 : V) (x5 : V) (h : HT) : Option J := bndC (gsel x5 false (retV (kMov [x0]) h) h) fun x7 h =>
  bndC (gsel x5 false (f112 [x7] h) h) fun x8 h =>
  bndC (gsel x5 false (retV (rNot x8) h) h) fun x9 h =>
  bndV (rPick x5 (.bool true) x9) fun x10 =>
  tstv x10 (ret1 (.tuple []) h)
  (bndC (f113 [x0] h) fun x12 h =>
  bndC (f114 [x0] h) fun x14 h =>
  bndV (rNilc x0) fun x16 =>
  bndV (rFa 69 x16) fun x17 =>
  bndV (rLd h x17) fun x18 =>
  bndV (rGeq x18 (.int .i64 (.ofNat (nat_lit 8)))) fun x19 =>
  bndC (gsel x19 true (retV (kMov [x0]) h) h) fun x21 h =>
  bndC (gsel x19 true (retV (kMov [x0]) h) h) fun x22 h =>
  (f45_0 x0 x19 x21 x22 h))
noncomputable def f45 (vs : List V) (h : HT) : Option J := unc1 vs fun x0 =>
  bndV (rNilc x0) fun x3 =>
  bndV (rFa 74 x3) fun x4 =>
  bndV (rLd h x4) fun x5 =>
  (f45_1 x0 x5 h)

/- concord/node.New -/
noncomputable def l9 : List (Nat × (List V → HT → Option J)) := [(35, f35), (36, f36), (37, f37), (38, f38), (39, f39), (40, f40), (41, f41), (42, f42), (43, f43), (44, f44), (45, f45)]
noncomputable def t9 : Fns := tab l9
noncomputable def f9_0 (x14 : V) (x75 : V) (x84 : V) (h : HT) : Option J := bndV (rGtr x84 (.int .i64 (.ofNat (nat_lit 0)))) fun x85 =>
  bndC (gsel x85 true (retV (kMov [x75]) h) h) fun x87 h =>
  bndC (gsel x85 true (retV (rIaS 1 x87 (.int .i64 (.ofNat (nat_lit 0)))) h) h) fun x88 h =>
  bndC (gsel x85 true (retV (rLd h x88) h) h) fun x89 h =>
  bndC (gsel x85 true (retV (rEql x89 (.int .u8 (.ofNat (nat_lit 2)))) h) h) fun x90 h =>
  bndV (rPick x85 x90 (.bool false)) fun x91 =>
  bndJ (tstv x91 (bndV (kSlS 1 true false [x75, (.int .i64 (.ofNat (nat_lit 1)))]) fun x94 =>
  bndN (rBsl 1 1 [(.slice none 0 true 0)] [(0, 1)] [x94]) h fun x95 h =>
  bndE (dApp h 1 24 [x14, x95]) h fun x96 h =>
  some ⟨0, [x96], h⟩)
  (some ⟨0, [x14], h⟩))
  fun j vs h => unc1 vs fun x14 =>
  some ⟨0, [x14], h⟩
noncomputable def f9_1 (rc : List V → HT → Option J) (x13 : V) (x14 : V) (x72 : V) (x75 : V) (h : HT) : Option J := bndC (f39 [x75] h) fun x78 h =>
  bndV (rExt 0 x78) fun x79 =>
  bndV (rExt 1 x78) fun x80 =>
  bndN (rAlloc [(.int .i64 (.ofNat (nat_lit 0))), (.int .i64 (.ofNat (nat_lit 0))), (.int .i64 (.ofNat (nat_lit 0))), (.int .i64 (.ofNat (nat_lit 0))), (.int .i64 (.ofNat (nat_lit 0))), (.int .i64 (.ofNat (nat_lit 0))), (.int .i64 (.ofNat (nat_lit 0)))] []) h fun x17 h =>
  bndE (rSt h 7 x17 x79) h fun _ h =>
  bndJ (tstv x80 (bndV (rLdN h 7 x17) fun x82 =>
  bndE (rSt h 7 x13 x82) h fun _ h =>
  some ⟨0, [x14], h⟩)
  (bndV (rLenS x75) fun x84 =>
  (f9_0 x14 x75 x84 h)))
  fun j vs h => unc1 vs fun x14 =>
  bndV (rAdd x72 (.int .i64 (.ofNat (nat_lit 1)))) fun x97 =>
  rc [x14, x97] h
noncomputable def f9_2 (x1 : V) (x13 : V) (x42 : V) (x60 : V) (x118 : V) (h : HT) : Option J := bndJ (tstv x118 (bndV (rLdN h 7 x13) fun x120 =>
  bndC (f43 [x120] h) fun x121 h =>
  bndN (rBsl 1 1 [(.slice none 0 true 0)] [(0, 1)] [x121]) h fun x122 h =>
  bndC (f42 [x60, x122] h) fun x123 h =>
  bndV (rNeq x123 (.int .i64 (.ofNat (nat_lit 0)))) fun x125 =>
  tstv x125 (some ⟨0, [(.ptr none), x123], h⟩)
  (some ⟨1, [], h⟩))
  (some ⟨1, [], h⟩))
  fun j vs h => nsw j (unc2 vs fun x6 x7 =>
  ret1 (.tuple [x6, x7]) h)
  fun j => bndV (rNilc x42) fun x128 =>
  bndV (rFa 5 x128) fun x129 =>
  bndV (rLd h x129) fun x130 =>
  bndV (rNilc x42) fun x133 =>
  bndV (rFa 62 x133) fun x134 =>
  bndV (rLdN h 7 x134) fun x135 =>
  bndC (f44 [x130, x1, x135] h) fun x136 h =>
  bndC (f45 [x42] h) fun x138 h =>
  ret1 (.tuple [x42, (.int .i64 (.ofNat (nat_lit 0)))]) h
noncomputable def f9_3 (x0 : V) (x1 : V) (x13 : V) (x14 : V) (x42 : V) (x60 : V) (h : HT) : Option J := bndV (rLdN h 7 x13) fun x102 =>
  bndC (f40 [x0, x1, x102, x14] h) fun x104 h =>
  bndV (rExt 0 x104) fun x105 =>
  bndV (rExt 1 x104) fun x106 =>
  bndV (rNilc x42) fun x107 =>
  bndV (rFa 4 x107) fun x108 =>
  bndE (rSt h 1 x108 x105) h fun _ h =>
  bndV (rNeq x106 (.int .i64 (.ofNat (nat_lit 0)))) fun x110 =>
  tstv x110 (ret1 (.tuple [(.ptr none), x106]) h)
  (bndC (f41 [x60] h) fun x114 h =>
  bndV (rExt 0 x114) fun x115 =>
  bndV (rExt 1 x114) fun x116 =>
  bndV (rEql x115 (.int .i64 (.ofNat (nat_lit 0)))) fun x118 =>
  (f9_2 x1 x13 x42 x60 x118 h))
noncomputable def f9_4 (x0 : V) (x1 : V) (x42 : V) (x60 : V) (x61 : V) (x68 : V) (h : HT) : Option J := bndV (rFa 3 x68) fun x69 =>
  bndE (rSt h 1 x69 x60) h fun _ h =>
  bndN (rAlloc [(.int .i64 (.ofNat (nat_lit 0))), (.int .i64 (.ofNat (nat_lit 0))), (.int .i64 (.ofNat (nat_lit 0))), (.int .i64 (.ofNat (nat_lit 0))), (.int .i64 (.ofNat (nat_lit 0))), (.int .i64 (.ofNat (nat_lit 0))), (.int .i64 (.ofNat (nat_lit 0)))] []) h fun x13 h =>
  bndV (rLenS x61) fun x71 =>
  bndJ (loopF (fun rc vs h => unc2 vs fun x14 x72 =>
  bndV (rLss x72 x71) fun x73 =>
  tstv x73 (bndV (rIaS 1 x61 x72) fun x74 =>
  bndV (rLd h x74) fun x75 =>
  (f9_1 rc x13 x14 x72 x75 h))
  (some ⟨0, [x14], h⟩)) 1000000 [(.slice none 0 true 0), (.int .i64 (.ofNat (nat_lit 0)))] h)
  fun j vs h => unc1 vs fun x14 =>
  (f9_3 x0 x1 x13 x14 x42 x60 h)
noncomputable def f9_5 (x0 : V) (x1 : V) (x2 : V) (x42 : V) (x48 : V) (x50 : V) (h : HT) : Option J := bndV (rFa 5 x50) fun x51 =>
  bndE (rSt h 1 x51 x48) h fun _ h =>
  bndC (f37 [x42] h) fun x53 h =>
  bndV (rNeq x53 (.int .i64 (.ofNat (nat_lit 0)))) fun x55 =>
  tstv x55 (ret1 (.tuple [(.ptr none), x53]) h)
  (bndC (f38 [x2] h) fun x59 h =>
  bndV (rExt 0 x59) fun x60 =>
  bndV (rExt 1 x59) fun x61 =>
  bndV (rExt 2 x59) fun x62 =>
  bndV (rNeq x62 (.int .i64 (.ofNat (nat_lit 0)))) fun x64 =>
  tstv x64 (ret1 (.tuple [(.ptr none), x62]) h)
  (bndV (rNilc x42) fun x68 =>
  (f9_4 x0 x1 x42 x60 x61 x68 h)))
noncomputable def f9_6 (x0 : V) (x1 : V) (x2 : V) (x28 : V) (x30 : V) (h : HT) : Option J := bndC (gsel x28 false (retV (kMov [x0]) h) h) fun x31 h =>
  bndC (gsel x28 false (retV (rGeq x30 x31) h) h) fun x32 h =>
  bndV (rPick x28 (.bool true) x32) fun x33 =>
  bndC (gsel x33 false (retV (kMov [x2]) h) h) fun x35 h =>
  bndC (gsel x33 false (retV (kEqN false [x35, (.ptr none)]) h) h) fun x36 h =>
  bndV (rPick x33 (.bool true) x36) fun x37 =>
  tstv x37 (ret1 (.tuple [(.ptr none), (.int .i64 (.ofNat (nat_lit 1)))]) h)
  (bndV (rBld [(.int .i64 (.ofNat (nat_lit 0))), (.int .i64 (.ofNat (nat_lit 0))), (.ptr none), (.ptr none), (.ptr none), (.ptr none), (.slice none 0 true 0), (.int .i64 (.ofNat (nat_lit 0))), (.int .i64 (.ofNat (nat_lit 0))), (.bool false), (.str (sb [])), (.int .i64 (.ofNat (nat_lit 0))), (.slice none 0 true 0), (.int .i64 (.ofNat (nat_lit 0))), (.int .i64 (.ofNat (nat_lit 0))), (.bool false), (.str (sb [])), (.int .i64 (.ofNat (nat_lit 0))), (.slice none 0 true 0), (.int .i64 (.ofNat (nat_lit 0))), (.int .i64 (.ofNat (nat_lit 0))), (.bool false), (.str (sb [])), (.int .i64 (.ofNat (nat_lit 0))), (.slice none 0 true 0), (.int .i64 (.ofNat (nat_lit 0))), (.int .i64 (.ofNat (nat_lit 0))), (.bool false), (.str (sb [])), (.int .i64 (.ofNat (nat_lit 0))), (.slice none 0 true 0), (.int .i64 (.ofNat (nat_lit 0))), (.int .i64 (.ofNat (nat_lit 0))), (.bool false), (.str (sb [])), (.int .i64 (.ofNat (nat_lit 0))), (.slice none 0 true 0), (.int .i64 (.ofNat (nat_lit 0))), (.int .i64 (.ofNat (nat_lit 0))), (.bool false), (.str (sb [])), (.int .i64 (.ofNat (nat_lit 0))), (.slice none 0 true 0), (.int .i64 (.ofNat (nat_lit 0))), (.int .i64 (.ofNat (nat_lit 0))), (.bool false), (.str (sb [])), (.int .i64 (.ofNat (nat_lit 0))), (.slice none 0 true 0), (.int .i64 (.ofNat (nat_lit 0))), (.int .i64 (.ofNat (nat_lit 0))), (.bool false), (.str (sb [])), (.int .i64 (.ofNat (nat_lit 0))), (.slice none 0 true 0), (.int .i64 (.ofNat (nat_lit 0))), (.int .i64 (.ofNat (nat_lit 0))), (.int .i64 (.ofNat (nat_lit 0))), (.int .i64 (.ofNat (nat_lit 0))), (.int .i64 (.ofNat (nat_lit 0))), (.int .i64 (.ofNat (nat_lit 0))), (.int .i64 (.ofNat (nat_lit 0))), (.int .i64 (.ofNat (nat_lit 0))), (.int .i64 (.ofNat (nat_lit 0))), (.int .i64 (.ofNat (nat_lit 0))), (.int .i64 (.ofNat (nat_lit 0))), (.int .i64 (.ofNat (nat_lit 0))), (.int .i64 (.ofNat (nat_lit 0))), (.int .i64 (.ofNat (nat_lit 0))), (.int .i64 (.ofNat (nat_lit 0))), (.int .i64 (.ofNat (nat_lit 0))), (.slice none 0 true 0), (.slice none 0 true 0), (.slice none 0 true 0), (.bool false)] [(0, 1), (1, 1), (2, 1)] [x0, x1, x2]) fun x41 =>
  bndN (rBox x41) h fun x42 h =>
  bndC (f36 [x0, x1] h) fun x47 h =>
  bndV (rExt 0 x47) fun x48 =>
  bndV (rExt 1 x47) fun x49 =>
  bndV (rNilc x42) fun x50 =>
  (f9_5 x0 x1 x2 x42 x48 x50 h))
noncomputable def f9 (vs : List V) (h : HT) : Option J := unc3 vs fun x0 x1 x2 =>
  bndC (f35 [x0] h) fun x23 h =>
  bndV (rNot x23) fun x24 =>
  bndC (gsel x24 false (retV (kMov [x1]) h) h) fun x26 h =>
  bndC (gsel x24 false (retV (rLss x26 (.int .i64 (.ofNat (nat_lit 0)))) h) h) fun x27 h =>
  bndV (rPick x24 (.bool true) x27) fun x28 =>
  bndC (gsel x28 false (retV (kMov [x1]) h) h) fun x30 h =>
  (f9_6 x0 x1 x2 x28 x30 h)

/- (*concord/node.Node).way -/
noncomputable def l49 : List (Nat × (List V → HT → Option J)) := [(123, f123)]
noncomputable def t49 : Fns := tab l49
noncomputable def f49_0 (rc : List V → HT → Option J) (x3 : V) (x7 : V) (x15 : V) (x48 : V) (x52 : V) (h : HT) : Option J := bndC (gsel x48 true (retV (rFa 0 x3) h) h) fun x53 h =>
  bndC (gsel x48 true (retV (rLd h x53) h) h) fun x54 h =>
  bndC (gsel x48 true (retV (rEql x52 x54) h) h) fun x55 h =>
  bndV (rPick x48 x55 (.bool false)) fun x56 =>
  bndC (gsel x56 true (retV (rFa 5 x7) h) h) fun x58 h =>
  bndC (gsel x56 true (retV (rFa 2 x58) h) h) fun x59 h =>
  bndC (gsel x56 true (retV (rLd h x59) h) h) fun x60 h =>
  bndC (gsel x56 true (retV (rFa 1 x3) h) h) fun x61 h =>
  bndC (gsel x56 true (retV (rLd h x61) h) h) fun x62 h =>
  bndC (gsel x56 true (retV (rEql x60 x62) h) h) fun x63 h =>
  bndV (rPick x56 x63 (.bool false)) fun x64 =>
  tstv x64 (some ⟨1, [(.bool true)], h⟩)
  (bndV (rAdd x15 (.int .i64 (.ofNat (nat_lit 1)))) fun x65 =>
  rc [x65] h)
noncomputable def f49_1 (rc : List V → HT → Option J) (x0 : V) (x3 : V) (x7 : V) (x15 : V) (x34 : V) (x37 : V) (h : HT) : Option J := bndC (gsel x34 true (retV (kMov [x0]) h) h) fun x38 h =>
  bndC (gsel x34 true (retV (kMov [x0]) h) h) fun x39 h =>
  bndC (gsel x34 true (retV (rNilc x39) h) h) fun x40 h =>
  bndC (gsel x34 true (retV (rFa 1 x40) h) h) fun x41 h =>
  bndC (gsel x34 true (retV (rLd h x41) h) h) fun x42 h =>
  bndC (gsel x34 true (retV (rNilc x38) h) h) fun x43 h =>
  bndC (gsel x34 true (retV (rFa 55 x43) h) h) fun x44 h =>
  bndC (gsel x34 true (retV (rIaA 7 1 x44 x42) h) h) fun x45 h =>
  bndC (gsel x34 true (retV (rLd h x45) h) h) fun x46 h =>
  bndC (gsel x34 true (retV (rGtr x37 x46) h) h) fun x47 h =>
  bndV (rPick x34 x47 (.bool false)) fun x48 =>
  bndC (gsel x48 true (retV (rFa 5 x7) h) h) fun x50 h =>
  bndC (gsel x48 true (retV (rFa 1 x50) h) h) fun x51 h =>
  bndC (gsel x48 true (retV (rLd h x51) h) h) fun x52 h =>
  (f49_0 rc x3 x7 x15 x48 x52 h)
noncomputable def f49_2 (rc : List V → HT → Option J) (x0 : V) (x3 : V) (x6 : V) (x15 : V) (x23 : V) (h : HT) : Option J := bndV (rLdN h 2 x6) fun x24 =>
  bndN (rAlloc [(.int .i64 (.ofNat (nat_lit 0))), (.int .i64 (.ofNat (nat_lit 0))), (.int .i64 (.ofNat (nat_lit 0))), (.int .i64 (.ofNat (nat_lit 0))), (.int .i64 (.ofNat (nat_lit 0))), (.int .i64 (.ofNat (nat_lit 0))), (.int .i64 (.ofNat (nat_lit 0))), (.int .i64 (.ofNat (nat_lit 0))), (.str (sb [])), (.str (sb [])), (.str (sb [])), (.str (sb [])), (.int .i64 (.ofNat (nat_lit 0))), (.int .i64 (.ofNat (nat_lit 0))), (.int .i64 (.ofNat (nat_lit 0))), (.int .i64 (.ofNat (nat_lit 0))), (.int .i64 (.ofNat (nat_lit 0))), (.int .i64 (.ofNat (nat_lit 0))), (.int .i64 (.ofNat (nat_lit 0))), (.int .i64 (.ofNat (nat_lit 0))), (.bool false)] []) h fun x7 h =>
  bndC (noF [x23, x24] h) fun x25 h =>
  bndV (rExt 0 x25) fun x26 =>
  bndV (rExt 1 x25) fun x27 =>
  bndE (rSt h 21 x7 x26) h fun _ h =>
  bndV (rFa 0 x6) fun x28 =>
  bndV (rLd h x28) fun x29 =>
  bndV (rNilc x0) fun x31 =>
  bndV (rFa 1 x31) fun x32 =>
  bndV (rLd h x32) fun x33 =>
  bndV (rEql x29 x33) fun x34 =>
  bndC (gsel x34 true (retV (rFa 1 x6) h) h) fun x36 h =>
  bndC (gsel x34 true (retV (rLd h x36) h) h) fun x37 h =>
  (f49_1 rc x0 x3 x7 x15 x34 x37 h)
noncomputable def f49_3 (x0 : V) (x3 : V) (x13 : V) (x14 : V) (h : HT) : Option J := bndJ (loopF (fun rc vs h => unc1 vs fun x15 =>
  bndV (rLss x15 x14) fun x16 =>
  tstv x16 (bndV (rIaS 2 x13 x15) fun x17 =>
  bndV (rLdN h 2 x17) fun x18 =>
  bndN (rAlloc [(.int .i64 (.ofNat (nat_lit 0))), (.int .i64 (.ofNat (nat_lit 0)))] []) h fun x6 h =>
  bndE (rSt h 2 x6 x18) h fun _ h =>
  bndV (rNilc x0) fun x21 =>
  bndV (rFa 4 x21) fun x22 =>
  bndV (rLd h x22) fun x23 =>
  (f49_2 rc x0 x3 x6 x15 x23 h))
  (some ⟨0, [], h⟩)) 1000000 [(.int .i64 (.ofNat (nat_lit 0)))] h)
  fun j vs h => nsw j (ret1 (.bool false) h)
  fun j => unc1 vs fun x4 =>
  ret1 x4 h
noncomputable def f49 (vs : List V) (h : HT) : Option J := unc2 vs fun x0 x1 =>
  bndN (rBox x1) h fun x3 h =>
  bndV (rNilc x0) fun x10 =>
  bndV (rFa 4 x10) fun x11 =>
  bndV (rLd h x11) fun x12 =>
  bndC (f123 [x12] h) fun x13 h =>
  bndV (rLenS x13) fun x14 =>
  (f49_3 x0 x3 x13 x14 h)

/- (*concord/log.Log).Top -/
noncomputable def l125 : List (Nat × (List V → HT → Option J)) := []
noncomputable def t125 : Fns := tab l125
noncomputable def f125_0 (rc : List V → HT → Option J) (x3 : V) (x16 : V) (h : HT) : Option J := bndV (rExt 0 x16) fun x17 =>
  bndN (rAlloc [(.int .i64 (.ofNat (nat_lit 0))), (.int .i64 (.ofNat (nat_lit 0)))] []) h fun x4 h =>
  bndE (rSt h 2 x4 x17) h fun _ h =>
  bndV (rFa 0 x4) fun x18 =>
  bndV (rLd h x18) fun x19 =>
  bndV (rFa 0 x4) fun x20 =>
  bndV (rLd h x20) fun x21 =>
  bndV (rIaA 7 1 x3 x21) fun x22 =>
  bndV (rLd h x22) fun x23 =>
  bndV (rFa 1 x4) fun x24 =>
  bndV (rLd h x24) fun x25 =>
  bndV (rMax x23 x25) fun x26 =>
  bndV (rIaA 7 1 x3 x19) fun x27 =>
  bndE (rSt h 1 x27 x26) h fun _ h =>
  rc [] h
noncomputable def f125_1 (x2 : V) (x3 : V) (x10 : V) (h : HT) : Option J := bndV (rFa 0 x10) fun x11 =>
  bndV (rLd h x11) fun x12 =>
  bndN (kRng h.heap [x12]) h fun x13 h =>
  bndJ (loopF (fun rc vs h => bndE (dNx h [x13]) h fun x14 h =>
  bndV (rExt 0 x14) fun x15 =>
  tstv x15 (bndV (kEnt h.heap [x13]) fun x16 =>
  (f125_0 rc x3 x16 h))
  (some ⟨0, [], h⟩)) 1000000 [] h)
  fun j vs h => bndV (rLdN h 7 x3) fun x28 =>
  bndE (rSt h 7 x2 x28) h fun _ h =>
  bndV (qLd h (some 7) [x2]) fun x900000 =>
  ret1 x900000 h
noncomputable def f125 (vs : List V) (h : HT) : Option J := unc1 vs fun x0 =>
  bndN (rAlloc [(.int .i64 (.ofNat (nat_lit 0))), (.int .i64 (.ofNat (nat_lit 0))), (.int .i64 (.ofNat (nat_lit 0))), (.int .i64 (.ofNat (nat_lit 0))), (.int .i64 (.ofNat (nat_lit 0))), (.int .i64 (.ofNat (nat_lit 0))), (.int .i64 (.ofNat (nat_lit 0)))] []) h fun x2 h =>
  bndV (rNilc x0) fun x6 =>
  bndV (rFa 1 x6) fun x7 =>
  bndV (rLdN h 7 x7) fun x8 =>
  bndN (rAlloc [(.int .i64 (.ofNat (nat_lit 0))), (.int .i64 (.ofNat (nat_lit 0))), (.int .i64 (.ofNat (nat_lit 0))), (.int .i64 (.ofNat (nat_lit 0))), (.int .i64 (.ofNat (nat_lit 0))), (.int .i64 (.ofNat (nat_lit 0))), (.int .i64 (.ofNat (nat_lit 0)))] []) h fun x3 h =>
  bndE (rSt h 7 x3 x8) h fun _ h =>
  bndV (rNilc x0) fun x10 =>
  (f125_1 x2 x3 x10 h)

/- (*concord/interf.Index).Attr -/
noncomputable def l126 : List (Nat × (List V → HT → Option J)) := [(133, f133)]
noncomputable def t126 : Fns := tab l126
noncomputable def f126_0 (rc : List V → HT → Option J) (x7 : V) (x8 : V) (x45 : V) (x46 : V) (h : HT) : Option J := bndE (rSt h 1 x46 x45) h fun _ h =>
  bndV (rFa 0 x8) fun x47 =>
  bndV (rLd h x47) fun x48 =>
  bndV (rFa 0 x8) fun x49 =>
  bndV (rLd h x49) fun x50 =>
  bndV (rFa 1 x7) fun x51 =>
  bndV (rIaA 7 1 x51 x50) fun x52 =>
  bndV (rLd h x52) fun x53 =>
  bndV (rFa 1 x8) fun x54 =>
  bndV (rLd h x54) fun x55 =>
  bndV (rMax x53 x55) fun x56 =>
  bndV (rFa 1 x7) fun x57 =>
  bndV (rIaA 7 1 x57 x48) fun x58 =>
  bndE (rSt h 1 x58 x56) h fun _ h =>
  rc [] h
noncomputable def f126_1 (rc : List V → HT → Option J) (x5 : V) (x7 : V) (x8 : V) (x9 : V) (x32 : V) (x34 : V) (h : HT) : Option J := bndC (gsel x32 false (retV (rLdN h 7 x34) h) h) fun x35 h =>
  bndC (gsel x32 false (retV (rLdN h 7 x5) h) h) fun x36 h =>
  bndC (gsel x32 false (noF [x35, x36] h) h) fun x37 h =>
  bndC (gsel x32 false (retV (rNot x37) h) h) fun x38 h =>
  bndV (rPick x32 (.bool true) x38) fun x39 =>
  tstv x39 (rc [] h)
  (bndV (rFa 0 x7) fun x40 =>
  bndV (rLd h x40) fun x41 =>
  bndV (rFa 7 x9) fun x42 =>
  bndV (rLd h x42) fun x43 =>
  bndV (rAdd x43 (.int .i64 (.ofNat (nat_lit 1)))) fun x44 =>
  bndV (rMax x41 x44) fun x45 =>
  bndV (rFa 0 x7) fun x46 =>
  (f126_0 rc x7 x8 x45 x46 h))
noncomputable def f126_2 (rc : List V → HT → Option J) (x4 : V) (x5 : V) (x7 : V) (x8 : V) (x9 : V) (x19 : V) (x20 : V) (h : HT) : Option J := bndE (rSt h 2 x8 x19) h fun _ h =>
  bndE (rSt h 8 x9 x20) h fun _ h =>
  bndV (rFa 0 x8) fun x21 =>
  bndV (rLd h x21) fun x22 =>
  bndV (rFa 0 x4) fun x23 =>
  bndV (rLd h x23) fun x24 =>
  bndV (rEql x22 x24) fun x25 =>
  bndC (gsel x25 true (retV (rFa 1 x8) h) h) fun x27 h =>
  bndC (gsel x25 true (retV (rLd h x27) h) h) fun x28 h =>
  bndC (gsel x25 true (retV (rFa 1 x4) h) h) fun x29 h =>
  bndC (gsel x25 true (retV (rLd h x29) h) h) fun x30 h =>
  bndC (gsel x25 true (retV (rGeq x28 x30) h) h) fun x31 h =>
  bndV (rPick x25 x31 (.bool false)) fun x32 =>
  bndC (gsel x32 false (retV (rFa 0 x9) h) h) fun x34 h =>
  (f126_1 rc x5 x7 x8 x9 x32 x34 h)
noncomputable def f126_3 (x4 : V) (x7 : V) (x59 : V) (x83 : V) (h : HT) : Option J := bndJ (tstv x83 (bndV (rFa 1 x7) fun x86 =>
  bndV (rIaA 7 1 x86 x59) fun x87 =>
  bndV (rLd h x87) fun x88 =>
  bndV (rFa 1 x4) fun x89 =>
  bndV (rLd h x89) fun x90 =>
  bndV (rSub x90 (.int .i64 (.ofNat (nat_lit 1)))) fun x91 =>
  bndV (rMax x88 x91) fun x92 =>
  bndV (rFa 1 x7) fun x93 =>
  bndV (rIaA 7 1 x93 x59) fun x94 =>
  bndE (rSt h 1 x94 x92) h fun _ h =>
  some ⟨0, [], h⟩)
  (some ⟨0, [], h⟩))
  fun j vs h => some ⟨0, [], h⟩
noncomputable def f126_4 (x0 : V) (x4 : V) (x7 : V) (x59 : V) (x66 : V) (h : HT) : Option J := tstv x66 (bndV (rFa 1 x7) fun x69 =>
  bndV (rIaA 7 1 x69 x59) fun x70 =>
  bndV (rLd h x70) fun x71 =>
  bndV (rNilc x0) fun x74 =>
  bndV (rFa 1 x74) fun x75 =>
  bndV (rIaA 7 1 x75 x59) fun x76 =>
  bndV (rLd h x76) fun x77 =>
  bndV (rMax x71 x77) fun x78 =>
  bndV (rFa 1 x7) fun x79 =>
  bndV (rIaA 7 1 x79 x59) fun x80 =>
  bndE (rSt h 1 x80 x78) h fun _ h =>
  some ⟨0, [], h⟩)
  (bndV (rLdN h 2 x4) fun x82 =>
  bndC (f133 [x82] h) fun x83 h =>
  (f126_3 x4 x7 x59 x83 h))
noncomputable def f126_5 (x0 : V) (x4 : V) (x6 : V) (x7 : V) (h : HT) : Option J := bndJ (loopF (fun rc vs h => unc1 vs fun x59 =>
  bndV (rLss x59 (.int .i64 (.ofNat (nat_lit 7)))) fun x60 =>
  tstv x60 (bndV (rFa 0 x4) fun x64 =>
  bndV (rLd h x64) fun x65 =>
  bndV (rNeq x59 x65) fun x66 =>
  bndJ ((f126_4 x0 x4 x7 x59 x66 h))
  fun j vs h => bndV (rAdd x59 (.int .i64 (.ofNat (nat_lit 1)))) fun x95 =>
  rc [x95] h)
  (some ⟨0, [], h⟩)) 1000000 [(.int .i64 (.ofNat (nat_lit 0)))] h)
  fun j vs h => bndV (rLdN h 8 x7) fun x96 =>
  bndE (rSt h 8 x6 x96) h fun _ h =>
  bndV (qLd h (some 8) [x6]) fun x900000 =>
  ret1 x900000 h
noncomputable def f126_6 (x0 : V) (x4 : V) (x5 : V) (x6 : V) (x7 : V) (x13 : V) (h : HT) : Option J := bndV (rLd h x13) fun x14 =>
  bndN (kRng h.heap [x14]) h fun x15 h =>
  bndJ (loopF (fun rc vs h => bndE (dNx h [x15]) h fun x16 h =>
  bndV (rExt 0 x16) fun x17 =>
  tstv x17 (bndV (kEnt h.heap [x15]) fun x18 =>
  bndV (rExt 0 x18) fun x19 =>
  bndV (rExt 1 x18) fun x20 =>
  bndN (rAlloc [(.int .i64 (.ofNat (nat_lit 0))), (.int .i64 (.ofNat (nat_lit 0)))] []) h fun x8 h =>
  bndN (rAlloc [(.int .i64 (.ofNat (nat_lit 0))), (.int .i64 (.ofNat (nat_lit 0))), (.int .i64 (.ofNat (nat_lit 0))), (.str (sb [])), (.str (sb [])), (.str (sb [])), (.str (sb [])), (.int .i64 (.ofNat (nat_lit 0)))] []) h fun x9 h =>
  (f126_2 rc x4 x5 x7 x8 x9 x19 x20 h))
  (some ⟨0, [], h⟩)) 1000000 [] h)
  fun j vs h => (f126_5 x0 x4 x6 x7 h)
noncomputable def f126 (vs : List V) (h : HT) : Option J := unc3 vs fun x0 x1 x2 =>
  bndN (rBox x1) h fun x4 h =>
  bndN (rBox x2) h fun x5 h =>
  bndN (rAlloc [(.int .i64 (.ofNat (nat_lit 0))), (.int .i64 (.ofNat (nat_lit 0))), (.int .i64 (.ofNat (nat_lit 0))), (.int .i64 (.ofNat (nat_lit 0))), (.int .i64 (.ofNat (nat_lit 0))), (.int .i64 (.ofNat (nat_lit 0))), (.int .i64 (.ofNat (nat_lit 0))), (.int .i64 (.ofNat (nat_lit 0)))] []) h fun x6 h =>
  bndN (rAlloc [(.int .i64 (.ofNat (nat_lit 0))), (.int .i64 (.ofNat (nat_lit 0))), (.int .i64 (.ofNat (nat_lit 0))), (.int .i64 (.ofNat (nat_lit 0))), (.int .i64 (.ofNat (nat_lit 0))), (.int .i64 (.ofNat (nat_lit 0))), (.int .i64 (.ofNat (nat_lit 0))), (.int .i64 (.ofNat (nat_lit 0)))] []) h fun x7 h =>
  bndV (rNilc x0) fun x12 =>
  bndV (rFa 0 x12) fun x13 =>
  (f126_6 x0 x4 x5 x6 x7 x13 h)

/- concord/pack.Flag -/
noncomputable def l263 : List (Nat × (List V → HT → Option J)) := [(179, f179)]
noncomputable def t263 : Fns := tab l263

noncomputable def f263 (vs : List V) (h : HT) : Option J := unc2 vs fun x0 x1 =>
  tstv x1 (bndC (f179 [x0, (.int .i64 (.ofNat (nat_lit 1)))] h) fun x7 h =>
  bndN (rBsl 1 1 [(.int .u8 (.ofNat (nat_lit 0)))] [(0, 1)] [(.int .u8 (.ofNat (nat_lit 1)))]) h fun x8 h =>
  bndE (dApp h 1 1 [x7, x8]) h fun x9 h =>
  ret1 x9 h)
  (bndC (f179 [x0, (.int .i64 (.ofNat (nat_lit 1)))] h) fun x11 h =>
  bndN (rBsl 1 1 [(.int .u8 (.ofNat (nat_lit 0)))] [(0, 1)] [(.int .u8 (.ofNat (nat_lit 0)))]) h fun x12 h =>
  bndE (dApp h 1 1 [x11, x12]) h fun x13 h =>
  ret1 x13 h)

/- concord/letter.ballot -/
noncomputable def l320 : List (Nat × (List V → HT → Option J)) := [(110, f110)]
noncomputable def t320 : Fns := tab l320

noncomputable def f320 (vs : List V) (h : HT) : Option J := unc2 vs fun x0 x1 =>
  bndN (rBox x1) h fun x3 h =>
  bndV (rFa 0 x3) fun x6 =>
  bndV (rLd h x6) fun x7 =>
  bndV (rFa 1 x3) fun x9 =>
  bndV (rLd h x9) fun x10 =>
  bndC (f110 [x0, x7] h) fun x8 h =>
  chk1 (sameE (rLd h x9) x10) (bndC (f110 [x8, x10] h) fun x11 h =>
  ret1 x11 h)

/- concord/pack.Text -/
noncomputable def l264 : List (Nat × (List V → HT → Option J)) := [(179, f179), (187, f187)]
noncomputable def t264 : Fns := tab l264

noncomputable def f264 (vs : List V) (h : HT) : Option J := unc2 vs fun x0 x1 =>
  bndV (kLenT [x1]) fun x7 =>
  bndV (rAdd (.int .i64 (.ofNat (nat_lit 10))) x7) fun x8 =>
  bndC (f179 [x0, x8] h) fun x9 h =>
  bndV (kLenT [x1]) fun x11 =>
  bndC (f187 [x9, x11] h) fun x12 h =>
  bndE (dAppStr h [x12, x1]) h fun x14 h =>
  ret1 x14 h

/- concord/cmd.Put -/
noncomputable def l321 : List (Nat × (List V → HT → Option J)) := [(48, f48), (110, f110), (264, f264)]
noncomputable def t321 : Fns := tab l321
noncomputable def f321_0 (x3 : V) (x27 : V) (x29 : V) (x37 : V) (h : HT) : Option J := tstv x37 (bndV (rFa 5 x3) fun x39 =>
  bndV (rLd h x39) fun x40 =>
  bndV (rFa 6 x3) fun x42 =>
  bndV (rLd h x42) fun x43 =>
  bndC (f264 [x27, x40] h) fun x41 h =>
  chk1 (sameE (rLd h x42) x43) (bndC (f264 [x41, x43] h) fun x44 h =>
  some ⟨0, [x44], h⟩))
  (bndV (rEql x29 (.int .i64 (.ofNat (nat_lit 5)))) fun x46 =>
  bndJ (tstv x46 (bndV (rFa 4 x3) fun x48 =>
  bndV (rLd h x48) fun x49 =>
  bndC (f264 [x27, x49] h) fun x50 h =>
  some ⟨0, [x50], h⟩)
  (some ⟨0, [x27], h⟩))
  fun j vs h => unc1 vs fun x0_1 =>
  some ⟨0, [x0_1], h⟩)
noncomputable def f321_1 (x3 : V) (x27 : V) (x28 : V) (h : HT) : Option J := bndV (rLd h x28) fun x29 =>
  bndV (rEql x29 (.int .i64 (.ofNat (nat_lit 2)))) fun x31 =>
  bndJ (tstv x31 (bndV (rFa 6 x3) fun x33 =>
  bndV (rLd h x33) fun x34 =>
  bndC (f264 [x27, x34] h) fun x35 h =>
  some ⟨0, [x35], h⟩)
  (bndV (rEql x29 (.int .i64 (.ofNat (nat_lit 4)))) fun x37 =>
  bndJ ((f321_0 x3 x27 x29 x37 h))
  fun j vs h => unc1 vs fun x0_1 =>
  some ⟨0, [x0_1], h⟩))
  fun j vs h => unc1 vs fun x0_1 =>
  ret1 x0_1 h
noncomputable def f321_2 (x3 : V) (x13 : V) (x16 : V) (h : HT) : Option J := tstv x16 (ret1 x13 h)
  (bndV (rFa 1 x3) fun x19 =>
  bndV (rLd h x19) fun x20 =>
  bndV (rFa 2 x3) fun x22 =>
  bndV (rLd h x22) fun x23 =>
  bndV (rFa 3 x3) fun x25 =>
  bndV (rLd h x25) fun x26 =>
  bndC (f110 [x13, x20] h) fun x21 h =>
  chk1 (sameE (rLd h x25) x26) (chk1 (sameE (rLd h x22) x23) (bndC (f110 [x21, x23] h) fun x24 h =>
  chk1 (sameE (rLd h x25) x26) (bndC (f264 [x24, x26] h) fun x27 h =>
  bndV (rFa 0 x3) fun x28 =>
  (f321_1 x3 x27 x28 h)))))
noncomputable def f321 (vs : List V) (h : HT) : Option J := unc2 vs fun x0 x1 =>
  bndN (rBox x1) h fun x3 h =>
  bndV (rLdN h 7 x3) fun x5 =>
  bndC (f48 [x5] h) fun x6 h =>
  bndV (rNot x6) fun x7 =>
  tstv x7 (bndE (dApp h 1 1 [(.slice none 0 true 0), x0]) h fun x9 h =>
  ret1 x9 h)
  (bndV (rFa 0 x3) fun x11 =>
  bndV (rLd h x11) fun x12 =>
  bndC (f110 [x0, x12] h) fun x13 h =>
  bndV (rFa 0 x3) fun x14 =>
  bndV (rLd h x14) fun x15 =>
  bndV (rEql x15 (.int .i64 (.ofNat (nat_lit 0)))) fun x16 =>
  (f321_2 x3 x13 x16 h))

/- concord/deps.Put -/
noncomputable def l322 : List (Nat × (List V → HT → Option J)) := [(110, f110)]
noncomputable def t322 : Fns := tab l322
noncomputable def f322_0 (x0 : V) (x3 : V) (x9 : V) (h : HT) : Option J := bndC (f110 [x0, x9] h) fun x10 h =>
  bndV (rFa 1 x3) fun x11 =>
  bndV (rLdN h 7 x11) fun x12 =>
  bndJ (loopF (fun rc vs h => unc2 vs fun x0_1 x13 =>
  bndV (rLss x13 (.int .i64 (.ofNat (nat_lit 7)))) fun x14 =>
  tstv x14 (bndV (rIxA 7 1 x12 x13) fun x15 =>
  bndC (f110 [x0_1, x15] h) fun x18 h =>
  bndV (rAdd x13 (.int .i64 (.ofNat (nat_lit 1)))) fun x19 =>
  rc [x18, x19] h)
  (some ⟨0, [x0_1], h⟩)) 1000000 [x10, (.int .i64 (.ofNat (nat_lit 0)))] h)
  fun j vs h => unc1 vs fun x0_1 =>
  ret1 x0_1 h
noncomputable def f322 (vs : List V) (h : HT) : Option J := unc2 vs fun x0 x1 =>
  bndN (rBox x1) h fun x3 h =>
  bndV (rFa 0 x3) fun x8 =>
  bndV (rLd h x8) fun x9 =>
  (f322_0 x0 x3 x9 h)

/- concord/letter.PutCell -/
noncomputable def l269 : List (Nat × (List V → HT → Option J)) := [(110, f110), (135, f135), (263, f263), (320, f320), (321, f321), (322, f322)]
noncomputable def t269 : Fns := tab l269
noncomputable def f269_0 (x3 : V) (x16 : V) (h : HT) : Option J := bndV (rFa 3 x3) fun x22 =>
  bndV (rLdN h 2 x22) fun x23 =>
  bndV (rFa 5 x3) fun x25 =>
  bndV (rLdN h 7 x25) fun x26 =>
  bndC (f320 [x16, x23] h) fun x24 h =>
  chk1 (sameE (rLdN h 7 x25) x26) (bndC (f321 [x24, x26] h) fun x27 h =>
  bndV (rFa 12 x3) fun x29 =>
  bndV (rLdN h 8 x29) fun x30 =>
  bndV (rFa 20 x3) fun x32 =>
  bndV (rLd h x32) fun x33 =>
  bndC (f322 [x27, x30] h) fun x31 h =>
  chk1 (sameE (rLd h x32) x33) (bndC (f263 [x31, x33] h) fun x34 h =>
  ret1 x34 h))
noncomputable def f269_1 (x0 : V) (x3 : V) (x7 : V) (h : HT) : Option J := tstv x7 (bndE (dApp h 1 1 [(.slice none 0 true 0), x0]) h fun x9 h =>
  ret1 x9 h)
  (bndV (rFa 0 x3) fun x11 =>
  bndV (rLd h x11) fun x12 =>
  bndV (rFa 1 x3) fun x14 =>
  bndV (rLdN h 2 x14) fun x15 =>
  bndC (f110 [x0, x12] h) fun x13 h =>
  chk1 (sameE (rLdN h 2 x14) x15) (bndC (f320 [x13, x15] h) fun x16 h =>
  bndV (rFa 0 x3) fun x17 =>
  bndV (rLd h x17) fun x18 =>
  bndV (rEql x18 (.int .i64 (.ofNat (nat_lit 0)))) fun x19 =>
  tstv x19 (ret1 x16 h)
  ((f269_0 x3 x16 h))))
noncomputable def f269 (vs : List V) (h : HT) : Option J := unc2 vs fun x0 x1 =>
  bndN (rBox x1) h fun x3 h =>
  bndV (rLdN h 21 x3) fun x5 =>
  bndC (f135 [x5] h) fun x6 h =>
  bndV (rNot x6) fun x7 =>
  (f269_1 x0 x3 x7 h)

/- concord/log.Record -/
noncomputable def l202 : List (Nat × (List V → HT → Option J)) := [(110, f110), (269, f269)]
noncomputable def t202 : Fns := tab l202

noncomputable def f202 (vs : List V) (h : HT) : Option J := unc2 vs fun x0 x1 =>
  bndN (rBox x0) h fun x2 h =>
  bndN (rBox x1) h fun x3 h =>
  bndV (rFa 0 x2) fun x5 =>
  bndV (rLd h x5) fun x6 =>
  bndV (rFa 1 x2) fun x8 =>
  bndV (rLd h x8) fun x9 =>
  bndV (rLdN h 21 x3) fun x11 =>
  bndC (f110 [(.slice none 0 true 0), x6] h) fun x7 h =>
  chk1 (sameE (rLdN h 21 x3) x11) (chk1 (sameE (rLd h x8) x9) (bndC (f110 [x7, x9] h) fun x10 h =>
  chk1 (sameE (rLdN h 21 x3) x11) (bndC (f269 [x10, x11] h) fun x12 h =>
  ret1 x12 h)))

/- (*concord/core.Core).set -/
noncomputable def l127 : List (Nat × (List V → HT → Option J)) := [(106, f106), (107, f107), (202, f202)]
noncomputable def t127 : Fns := tab l127
noncomputable def f127_0 (x0 : V) (x4 : V) (x5 : V) (x17 : V) (h : HT) : Option J := bndV (rFa 6 x17) fun x18 =>
  bndV (rLd h x18) fun x19 =>
  bndV (rLdN h 2 x4) fun x20 =>
  bndV (rLdN h 21 x5) fun x21 =>
  bndC (f202 [x20, x21] h) fun x22 h =>
  chk1 (sameE (rLd h x18) x19) (bndN (rBsl 1 1 [(.slice none 0 true 0)] [(0, 1)] [x22]) h fun x23 h =>
  bndE (dApp h 1 24 [x19, x23]) h fun x24 h =>
  bndV (rNilc x0) fun x25 =>
  bndV (rFa 6 x25) fun x26 =>
  bndE (rSt h 1 x26 x24) h fun _ h =>
  bndV (rLdN h 2 x4) fun x28 =>
  bndV (rLdN h 21 x5) fun x29 =>
  bndC (f107 [x0, x28, x29] h) fun x30 h =>
  ret1 (.bool true) h)
noncomputable def f127 (vs : List V) (h : HT) : Option J := unc3 vs fun x0 x1 x2 =>
  bndN (rBox x1) h fun x4 h =>
  bndN (rBox x2) h fun x5 h =>
  bndV (rNilc x0) fun x8 =>
  bndV (rFa 2 x8) fun x9 =>
  bndV (rLd h x9) fun x10 =>
  bndV (rLdN h 2 x4) fun x11 =>
  bndV (rLdN h 21 x5) fun x12 =>
  bndC (f106 [x10, x11, x12] h) fun x13 h =>
  bndV (rNot x13) fun x14 =>
  tstv x14 (ret1 (.bool false) h)
  (bndV (rNilc x0) fun x17 =>
  (f127_0 x0 x4 x5 x17 h))

/- (*concord/core.Core).leave$1 -/
noncomputable def l275 : List (Nat × (List V → HT → Option J)) := []
noncomputable def t275 : Fns := tab l275

noncomputable def f275 (vs : List V) (h : HT) : Option J := unc2 vs fun x0 x1 =>
  bndV (rNilc x0) fun x5 =>
  bndV (rFa 0 x5) fun x6 =>
  bndV (rLdN h 2 x6) fun x7 =>
  bndV (rLdN h 2 x1) fun x8 =>
  bndV (kEqF false [.i, .i] [x7, x8]) fun x9 =>
  ret1 x9 h

/- slices.IndexFunc[[]*concord/core.lead,*concord/core.lead] -/
noncomputable def l319 : List (Nat × (List V → HT → Option J)) := [(275, f275)]
noncomputable def t319 : Fns := tab l319
noncomputable def f319_0 (x0 : V) (x1 : V) (x7 : V) (h : HT) : Option J := bndJ (loopF (fun rc vs h => unc1 vs fun x8 =>
  bndV (rLss x8 x7) fun x9 =>
  tstv x9 (bndV (rIaS 1 x0 x8) fun x14 =>
  bndV (rLd h x14) fun x15 =>
  bndC (callvT t319 [x1, x15] h) fun x16 h =>
  tstv x16 (some ⟨1, [x8], h⟩)
  (bndV (rAdd x8 (.int .i64 (.ofNat (nat_lit 1)))) fun x18 =>
  rc [x18] h))
  (some ⟨0, [], h⟩)) 1000000 [(.int .i64 (.ofNat (nat_lit 0)))] h)
  fun j vs h => nsw j (ret1 (.int .i64 (.negSucc (nat_lit 0))) h)
  fun j => unc1 vs fun x4 =>
  ret1 x4 h
noncomputable def f319 (vs : List V) (h : HT) : Option J := unc2 vs fun x0 x1 =>
  bndV (rLenS x0) fun x7 =>
  (f319_0 x0 x1 x7 h)

/- slices.DeleteFunc[[]*concord/core.lead,*concord/core.lead] -/
noncomputable def l266 : List (Nat × (List V → HT → Option J)) := [(319, f319)]
noncomputable def t266 : Fns := tab l266
noncomputable def f266_0 (rc : List V → HT → Option J) (x0 : V) (x1 : V) (x5 : V) (x6 : V) (x19 : V) (h : HT) : Option J := tstv x19 (bndV (rIaS 1 x0 x6) fun x24 =>
  bndV (rLd h x24) fun x25 =>
  bndC (callvT t266 [x1, x25] h) fun x28 h =>
  bndV (rNot x28) fun x29 =>
  bndJ (tstv x29 (bndV (rIaS 1 x0 x5) fun x33 =>
  bndE (rSt h 1 x33 x25) h fun _ h =>
  bndV (rAdd x5 (.int .i64 (.ofNat (nat_lit 1)))) fun x35 =>
  some ⟨0, [x35], h⟩)
  (some ⟨0, [x5], h⟩))
  fun j vs h => unc1 vs fun x5 =>
  bndV (rAdd x6 (.int .i64 (.ofNat (nat_lit 1)))) fun x21 =>
  rc [x5, x21] h)
  (some ⟨0, [x5], h⟩)
noncomputable def f266_1 (x0 : V) (x1 : V) (x10 : V) (h : HT) : Option J := bndV (rEql x10 (.int .i64 (.negSucc (nat_lit 0)))) fun x12 =>
  tstv x12 (ret1 x0 h)
  (bndV (rAdd x10 (.int .i64 (.ofNat (nat_lit 1)))) fun x15 =>
  bndJ (loopF (fun rc vs h => unc2 vs fun x5 x6 =>
  bndV (rLenS x0) fun x18 =>
  bndV (rLss x6 x18) fun x19 =>
  (f266_0 rc x0 x1 x5 x6 x19 h)) 1000000 [x10, x15] h)
  fun j vs h => unc1 vs fun x5 =>
  bndV (kSlS 1 true false [x0, x5]) fun x38 =>
  bndE (dClr h [(.ptr none)] [x38]) h fun _ h =>
  bndV (kSlS 1 false true [x0, x5]) fun x41 =>
  ret1 x41 h)
noncomputable def f266 (vs : List V) (h : HT) : Option J := unc2 vs fun x0 x1 =>
  bndC (f319 [x0, x1] h) fun x10 h =>
  (f266_1 x0 x1 x10 h)

/- (*concord/core.Core).leave -/
noncomputable def l213 : List (Nat × (List V → HT → Option J)) := [(266, f266)]
noncomputable def t213 : Fns := tab l213

noncomputable def f213 (vs : List V) (h : HT) : Option J := unc2 vs fun x0 x1 =>
  bndN (rBox x1) h fun x3 h =>
  bndV (rNilc x0) fun x6 =>
  bndV (rFa 4 x6) fun x7 =>
  bndV (rLd h x7) fun x8 =>
  bndV (kMkF 275 [x3]) fun x9 =>
  bndC (f266 [x8, x9] h) fun x10 h =>
  bndV (rNilc x0) fun x11 =>
  bndV (rFa 4 x11) fun x12 =>
  bndE (rSt h 1 x12 x10) h fun _ h =>
  ret1 (.tuple []) h

/- slices.Insert[[]*concord/core.lead,*concord/core.lead] -/
noncomputable def l273 : List (Nat × (List V → HT → Option J)) := []
noncomputable def t273 : Fns := tab l273
noncomputable def f273_0 (x0 : V) (x1 : V) (x2 : V) (x14 : V) (x19 : V) (x22 : V) (h : HT) : Option J := tstv x22 (bndE (dApp h 1 8 [x0, x2]) h fun x25 h =>
  ret1 x25 h)
  (bndV (rAdd x19 x14) fun x28 =>
  bndV (kCapS [x0]) fun x30 =>
  bndV (rGtr x28 x30) fun x31 =>
  tstv x31 (bndV (kSlS 1 false true [x0, x1]) fun x34 =>
  bndV (rAdd x19 x14) fun x37 =>
  bndV (rSub x37 x1) fun x39 =>
  none)
  (bndV (rAdd x19 x14) fun x59 =>
  bndV (kSlS 1 false true [x0, x59]) fun x60 =>
  bndV (rAdd x1 x14) fun x65 =>
  bndV (kSlS 1 true false [x60, x65]) fun x66 =>
  none))
noncomputable def f273 (vs : List V) (h : HT) : Option J := unc3 vs fun x0 x1 x2 =>
  bndV (kSlS 1 true false [x0, x1]) fun x12 =>
  bndV (rLenS x2) fun x14 =>
  bndV (rEql x14 (.int .i64 (.ofNat (nat_lit 0)))) fun x16 =>
  tstv x16 (ret1 x0 h)
  (bndV (rLenS x0) fun x19 =>
  bndV (rEql x1 x19) fun x22 =>
  (f273_0 x0 x1 x2 x14 x19 x22 h))

/- (*concord/core.Core).take -/
noncomputable def l206 : List (Nat × (List V → HT → Option J)) := [(213, f213), (273, f273)]
noncomputable def t206 : Fns := tab l206
noncomputable def f206_0 (rc : List V → HT → Option J) (x1 : V) (x4 : V) (x17 : V) (x22 : V) (x23 : V) (h : HT) : Option J := bndC (gsel x17 true (retV (rIaS 1 x22 x23) h) h) fun x24 h =>
  bndC (gsel x17 true (retV (rLd h x24) h) h) fun x25 h =>
  bndC (gsel x17 true (retV (rNilc x25) h) h) fun x26 h =>
  bndC (gsel x17 true (retV (rFa 0 x26) h) h) fun x27 h =>
  bndC (gsel x17 true (retV (rLdN h 2 x27) h) h) fun x28 h =>
  bndC (gsel x17 true (retV (kMov [x1]) h) h) fun x29 h =>
  bndC (gsel x17 true (retV (rNilc x29) h) h) fun x30 h =>
  bndC (gsel x17 true (retV (rFa 0 x30) h) h) fun x31 h =>
  bndC (gsel x17 true (retV (rLdN h 2 x31) h) h) fun x32 h =>
  bndC (gsel x17 true (noF [x28, x32] h) h) fun x33 h =>
  bndV (rPick x17 x33 (.bool false)) fun x34 =>
  tstv x34 (bndV (rAdd x4 (.int .i64 (.ofNat (nat_lit 1)))) fun x36 =>
  rc [x36] h)
  (some ⟨0, [x4], h⟩)
noncomputable def f206_1 (x0 : V) (x1 : V) (h : HT) : Option J := bndJ (loopF (fun rc vs h => unc1 vs fun x4 =>
  bndV (rNilc x0) fun x13 =>
  bndV (rFa 4 x13) fun x14 =>
  bndV (rLd h x14) fun x15 =>
  bndV (rLenS x15) fun x16 =>
  bndV (rLss x4 x16) fun x17 =>
  bndC (gsel x17 true (retV (kMov [x0]) h) h) fun x19 h =>
  bndC (gsel x17 true (retV (rNilc x19) h) h) fun x20 h =>
  bndC (gsel x17 true (retV (rFa 4 x20) h) h) fun x21 h =>
  bndC (gsel x17 true (retV (rLd h x21) h) h) fun x22 h =>
  bndC (gsel x17 true (retV (kMov [x4]) h) h) fun x23 h =>
  (f206_0 rc x1 x4 x17 x22 x23 h)) 1000000 [(.int .i64 (.ofNat (nat_lit 0)))] h)
  fun j vs h => unc1 vs fun x4 =>
  bndV (rNilc x0) fun x39 =>
  bndV (rFa 4 x39) fun x40 =>
  bndV (rLd h x40) fun x41 =>
  bndN (rBsl 1 1 [(.ptr none)] [(0, 1)] [x1]) h fun x44 h =>
  bndC (f273 [x41, x4, x44] h) fun x45 h =>
  bndV (rNilc x0) fun x46 =>
  bndV (rFa 4 x46) fun x47 =>
  bndE (rSt h 1 x47 x45) h fun _ h =>
  ret1 (.tuple []) h
noncomputable def f206 (vs : List V) (h : HT) : Option J := unc2 vs fun x0 x1 =>
  bndV (rNilc x1) fun x7 =>
  bndV (rFa 0 x7) fun x8 =>
  bndV (rLdN h 2 x8) fun x9 =>
  bndC (f213 [x0, x9] h) fun x10 h =>
  (f206_1 x0 x1 h)

/- (*concord/core.Core).send -/
noncomputable def l211 : List (Nat × (List V → HT → Option J)) := []
noncomputable def t211 : Fns := tab l211
noncomputable def f211_0 (x0 : V) (x1 : V) (x5 : V) (x8 : V) (h : HT) : Option J := bndV (rLd h x8) fun x9 =>
  bndV (rFa 1 x5) fun x11 =>
  bndE (rSt h 1 x11 x9) h fun _ h =>
  bndV (rFa 2 x5) fun x12 =>
  bndE (rSt h 1 x12 x1) h fun _ h =>
  bndV (rNilc x0) fun x15 =>
  bndV (rFa 7 x15) fun x16 =>
  bndV (rLd h x16) fun x17 =>
  bndV (rLdN h 51 x5) fun x18 =>
  bndN (rBsl 51 1 [(.int .i64 (.ofNat (nat_lit 0))), (.int .i64 (.ofNat (nat_lit 0))), (.int .i64 (.ofNat (nat_lit 0))), (.int .i64 (.ofNat (nat_lit 0))), (.int .i64 (.ofNat (nat_lit 0))), (.int .i64 (.ofNat (nat_lit 0))), (.int .i64 (.ofNat (nat_lit 0))), (.int .i64 (.ofNat (nat_lit 0))), (.int .i64 (.ofNat (nat_lit 0))), (.int .i64 (.ofNat (nat_lit 0))), (.str (sb [])), (.str (sb [])), (.str (sb [])), (.str (sb [])), (.int .i64 (.ofNat (nat_lit 0))), (.int .i64 (.ofNat (nat_lit 0))), (.int .i64 (.ofNat (nat_lit 0))), (.int .i64 (.ofNat (nat_lit 0))), (.int .i64 (.ofNat (nat_lit 0))), (.int .i64 (.ofNat (nat_lit 0))), (.int .i64 (.ofNat (nat_lit 0))), (.int .i64 (.ofNat (nat_lit 0))), (.int .i64 (.ofNat (nat_lit 0))), (.int .i64 (.ofNat (nat_lit 0))), (.int .i64 (.ofNat (nat_lit 0))), (.int .i64 (.ofNat (nat_lit 0))), (.int .i64 (.ofNat (nat_lit 0))), (.int .i64 (.ofNat (nat_lit 0))), (.int .i64 (.ofNat (nat_lit 0))), (.int .i64 (.ofNat (nat_lit 0))), (.str (sb [])), (.str (sb [])), (.str (sb [])), (.str (sb [])), (.int .i64 (.ofNat (nat_lit 0))), (.int .i64 (.ofNat (nat_lit 0))), (.int .i64 (.ofNat (nat_lit 0))), (.int .i64 (.ofNat (nat_lit 0))), (.int .i64 (.ofNat (nat_lit 0))), (.int .i64 (.ofNat (nat_lit 0))), (.int .i64 (.ofNat (nat_lit 0))), (.int .i64 (.ofNat (nat_lit 0))), (.bool false), (.int .i64 (.ofNat (nat_lit 0))), (.int .i64 (.ofNat (nat_lit 0))), (.int .i64 (.ofNat (nat_lit 0))), (.int .i64 (.ofNat (nat_lit 0))), (.int .i64 (.ofNat (nat_lit 0))), (.int .i64 (.ofNat (nat_lit 0))), (.int .i64 (.ofNat (nat_lit 0))), (.str (sb []))] [(0, 51)] [x18]) h fun x19 h =>
  bndE (dApp h 51 480 [x17, x19]) h fun x20 h =>
  bndV (rNilc x0) fun x21 =>
  bndV (rFa 7 x21) fun x22 =>
  bndE (rSt h 1 x22 x20) h fun _ h =>
  ret1 (.tuple []) h
noncomputable def f211 (vs : List V) (h : HT) : Option J := unc3 vs fun x0 x1 x2 =>
  bndN (rBox x2) h fun x5 h =>
  bndV (rNilc x0) fun x7 =>
  bndV (rFa 1 x7) fun x8 =>
  (f211_0 x0 x1 x5 x8 h)

/- (*concord/core.Core).all -/
noncomputable def l207 : List (Nat × (List V → HT → Option J)) := [(211, f211)]
noncomputable def t207 : Fns := tab l207
noncomputable def f207_0 (rc : List V → HT → Option J) (x0 : V) (x4 : V) (x5 : V) (x11 : V) (x17 : V) (h : HT) : Option J := bndV (rLd h x17) fun x18 =>
  bndV (rNeq x11 x18) fun x19 =>
  bndC (gsel x19 true (retV (kMov [x11]) h) h) fun x21 h =>
  bndC (gsel x19 true (retV (rIaA 7 1 x5 x21) h) h) fun x22 h =>
  bndC (gsel x19 true (retV (rLd h x22) h) h) fun x23 h =>
  bndC (gsel x19 true (retV (rEql x23 (.int .i64 (.ofNat (nat_lit 0)))) h) h) fun x24 h =>
  bndV (rPick x19 x24 (.bool false)) fun x25 =>
  bndJ (tstv x25 (bndV (rLdN h 51 x4) fun x28 =>
  bndC (f211 [x0, x11, x28] h) fun x29 h =>
  some ⟨0, [], h⟩)
  (some ⟨0, [], h⟩))
  fun j vs h => bndV (rAdd x11 (.int .i64 (.ofNat (nat_lit 1)))) fun x30 =>
  rc [x30] h
noncomputable def f207_1 (x0 : V) (x1 : V) (x2 : V) (h : HT) : Option J := bndN (rBox x1) h fun x4 h =>
  bndN (rBox x2) h fun x5 h =>
  bndV (rNilc x0) fun x8 =>
  bndV (rFa 0 x8) fun x9 =>
  bndV (rLd h x9) fun x10 =>
  bndJ (loopF (fun rc vs h => unc1 vs fun x11 =>
  bndV (rLss x11 x10) fun x12 =>
  tstv x12 (bndV (rNilc x0) fun x16 =>
  bndV (rFa 1 x16) fun x17 =>
  (f207_0 rc x0 x4 x5 x11 x17 h))
  (some ⟨0, [], h⟩)) 1000000 [(.int .i64 (.ofNat (nat_lit 0)))] h)
  fun j vs h => ret1 (.tuple []) h
noncomputable def f207 (vs : List V) (h : HT) : Option J := unc3 vs fun x0 x1 x2 =>
  (f207_1 x0 x1 x2 h)

/- (*concord/core.lead).ask -/
noncomputable def l208 : List (Nat × (List V → HT → Option J)) := []
noncomputable def t208 : Fns := tab l208
noncomputable def f208_0 (x0 : V) (x3 : V) (x21 : V) (h : HT) : Option J := bndV (rFa 6 x21) fun x22 =>
  bndV (rLdN h 7 x22) fun x23 =>
  bndV (rNilc x0) fun x25 =>
  bndV (rFa 13 x25) fun x26 =>
  bndV (rLdN h 8 x26) fun x27 =>
  bndV (rFa 0 x3) fun x28 =>
  bndE (rSt h 1 x28 (.int .i64 (.ofNat (nat_lit 1)))) h fun _ h =>
  chk1 (sameE (rLdN h 8 x26) x27) (chk1 (sameE (rLdN h 7 x22) x23) (bndV (rFa 7 x3) fun x29 =>
  bndE (rSt h 7 x29 x23) h fun _ h =>
  chk1 (sameE (rLdN h 8 x26) x27) (bndV (rFa 14 x3) fun x30 =>
  bndE (rSt h 8 x30 x27) h fun _ h =>
  some ⟨0, [], h⟩)))
noncomputable def f208_1 (x0 : V) (x3 : V) (x34 : V) (h : HT) : Option J := bndV (rFa 6 x34) fun x35 =>
  bndV (rLdN h 7 x35) fun x36 =>
  bndV (rNilc x0) fun x38 =>
  bndV (rFa 13 x38) fun x39 =>
  bndV (rLdN h 8 x39) fun x40 =>
  bndV (rFa 0 x3) fun x41 =>
  bndE (rSt h 1 x41 (.int .i64 (.ofNat (nat_lit 3)))) h fun _ h =>
  chk1 (sameE (rLdN h 8 x39) x40) (chk1 (sameE (rLdN h 7 x35) x36) (bndV (rFa 7 x3) fun x42 =>
  bndE (rSt h 7 x42 x36) h fun _ h =>
  chk1 (sameE (rLdN h 8 x39) x40) (bndV (rFa 14 x3) fun x43 =>
  bndE (rSt h 8 x43 x40) h fun _ h =>
  some ⟨0, [], h⟩)))
noncomputable def f208_2 (x0 : V) (x2 : V) (x3 : V) (x16 : V) (x19 : V) (h : HT) : Option J := bndJ (tstv x19 (bndV (rNilc x0) fun x21 =>
  (f208_0 x0 x3 x21 h))
  (bndV (rEql x16 (.int .i64 (.ofNat (nat_lit 1)))) fun x32 =>
  bndJ (tstv x32 (bndV (rNilc x0) fun x34 =>
  (f208_1 x0 x3 x34 h))
  (bndV (rFa 0 x3) fun x17 =>
  bndE (rSt h 1 x17 (.int .i64 (.ofNat (nat_lit 6)))) h fun _ h =>
  some ⟨0, [], h⟩))
  fun j vs h => some ⟨0, [], h⟩))
  fun j vs h => bndV (rLdN h 51 x3) fun x44 =>
  bndE (rSt h 51 x2 x44) h fun _ h =>
  bndV (qLd h (some 51) [x2]) fun x900000 =>
  ret1 x900000 h
noncomputable def f208_3 (x0 : V) (h : HT) : Option J := bndN (rAlloc [(.int .i64 (.ofNat (nat_lit 0))), (.int .i64 (.ofNat (nat_lit 0))), (.int .i64 (.ofNat (nat_lit 0))), (.int .i64 (.ofNat (nat_lit 0))), (.int .i64 (.ofNat (nat_lit 0))), (.int .i64 (.ofNat (nat_lit 0))), (.int .i64 (.ofNat (nat_lit 0))), (.int .i64 (.ofNat (nat_lit 0))), (.int .i64 (.ofNat (nat_lit 0))), (.int .i64 (.ofNat (nat_lit 0))), (.str (sb [])), (.str (sb [])), (.str (sb [])), (.str (sb [])), (.int .i64 (.ofNat (nat_lit 0))), (.int .i64 (.ofNat (nat_lit 0))), (.int .i64 (.ofNat (nat_lit 0))), (.int .i64 (.ofNat (nat_lit 0))), (.int .i64 (.ofNat (nat_lit 0))), (.int .i64 (.ofNat (nat_lit 0))), (.int .i64 (.ofNat (nat_lit 0))), (.int .i64 (.ofNat (nat_lit 0))), (.int .i64 (.ofNat (nat_lit 0))), (.int .i64 (.ofNat (nat_lit 0))), (.int .i64 (.ofNat (nat_lit 0))), (.int .i64 (.ofNat (nat_lit 0))), (.int .i64 (.ofNat (nat_lit 0))), (.int .i64 (.ofNat (nat_lit 0))), (.int .i64 (.ofNat (nat_lit 0))), (.int .i64 (.ofNat (nat_lit 0))), (.str (sb [])), (.str (sb [])), (.str (sb [])), (.str (sb [])), (.int .i64 (.ofNat (nat_lit 0))), (.int .i64 (.ofNat (nat_lit 0))), (.int .i64 (.ofNat (nat_lit 0))), (.int .i64 (.ofNat (nat_lit 0))), (.int .i64 (.ofNat (nat_lit 0))), (.int .i64 (.ofNat (nat_lit 0))), (.int .i64 (.ofNat (nat_lit 0))), (.int .i64 (.ofNat (nat_lit 0))), (.bool false), (.int .i64 (.ofNat (nat_lit 0))), (.int .i64 (.ofNat (nat_lit 0))), (.int .i64 (.ofNat (nat_lit 0))), (.int .i64 (.ofNat (nat_lit 0))), (.int .i64 (.ofNat (nat_lit 0))), (.int .i64 (.ofNat (nat_lit 0))), (.int .i64 (.ofNat (nat_lit 0))), (.str (sb []))] []) h fun x2 h =>
  bndV (rNilc x0) fun x5 =>
  bndV (rFa 0 x5) fun x6 =>
  bndV (rLdN h 2 x6) fun x7 =>
  bndV (rNilc x0) fun x9 =>
  bndV (rFa 3 x9) fun x10 =>
  bndV (rLdN h 2 x10) fun x11 =>
  bndV (rBld [(.int .i64 (.ofNat (nat_lit 0))), (.int .i64 (.ofNat (nat_lit 0))), (.int .i64 (.ofNat (nat_lit 0))), (.int .i64 (.ofNat (nat_lit 0))), (.int .i64 (.ofNat (nat_lit 0))), (.int .i64 (.ofNat (nat_lit 0))), (.int .i64 (.ofNat (nat_lit 0))), (.int .i64 (.ofNat (nat_lit 0))), (.int .i64 (.ofNat (nat_lit 0))), (.int .i64 (.ofNat (nat_lit 0))), (.str (sb [])), (.str (sb [])), (.str (sb [])), (.str (sb [])), (.int .i64 (.ofNat (nat_lit 0))), (.int .i64 (.ofNat (nat_lit 0))), (.int .i64 (.ofNat (nat_lit 0))), (.int .i64 (.ofNat (nat_lit 0))), (.int .i64 (.ofNat (nat_lit 0))), (.int .i64 (.ofNat (nat_lit 0))), (.int .i64 (.ofNat (nat_lit 0))), (.int .i64 (.ofNat (nat_lit 0))), (.int .i64 (.ofNat (nat_lit 0))), (.int .i64 (.ofNat (nat_lit 0))), (.int .i64 (.ofNat (nat_lit 0))), (.int .i64 (.ofNat (nat_lit 0))), (.int .i64 (.ofNat (nat_lit 0))), (.int .i64 (.ofNat (nat_lit 0))), (.int .i64 (.ofNat (nat_lit 0))), (.int .i64 (.ofNat (nat_lit 0))), (.str (sb [])), (.str (sb [])), (.str (sb [])), (.str (sb [])), (.int .i64 (.ofNat (nat_lit 0))), (.int .i64 (.ofNat (nat_lit 0))), (.int .i64 (.ofNat (nat_lit 0))), (.int .i64 (.ofNat (nat_lit 0))), (.int .i64 (.ofNat (nat_lit 0))), (.int .i64 (.ofNat (nat_lit 0))), (.int .i64 (.ofNat (nat_lit 0))), (.int .i64 (.ofNat (nat_lit 0))), (.bool false), (.int .i64 (.ofNat (nat_lit 0))), (.int .i64 (.ofNat (nat_lit 0))), (.int .i64 (.ofNat (nat_lit 0))), (.int .i64 (.ofNat (nat_lit 0))), (.int .i64 (.ofNat (nat_lit 0))), (.int .i64 (.ofNat (nat_lit 0))), (.int .i64 (.ofNat (nat_lit 0))), (.str (sb []))] [(3, 2), (5, 2)] [x7, x11]) fun x12 =>
  bndN (rAlloc [(.int .i64 (.ofNat (nat_lit 0))), (.int .i64 (.ofNat (nat_lit 0))), (.int .i64 (.ofNat (nat_lit 0))), (.int .i64 (.ofNat (nat_lit 0))), (.int .i64 (.ofNat (nat_lit 0))), (.int .i64 (.ofNat (nat_lit 0))), (.int .i64 (.ofNat (nat_lit 0))), (.int .i64 (.ofNat (nat_lit 0))), (.int .i64 (.ofNat (nat_lit 0))), (.int .i64 (.ofNat (nat_lit 0))), (.str (sb [])), (.str (sb [])), (.str (sb [])), (.str (sb [])), (.int .i64 (.ofNat (nat_lit 0))), (.int .i64 (.ofNat (nat_lit 0))), (.int .i64 (.ofNat (nat_lit 0))), (.int .i64 (.ofNat (nat_lit 0))), (.int .i64 (.ofNat (nat_lit 0))), (.int .i64 (.ofNat (nat_lit 0))), (.int .i64 (.ofNat (nat_lit 0))), (.int .i64 (.ofNat (nat_lit 0))), (.int .i64 (.ofNat (nat_lit 0))), (.int .i64 (.ofNat (nat_lit 0))), (.int .i64 (.ofNat (nat_lit 0))), (.int .i64 (.ofNat (nat_lit 0))), (.int .i64 (.ofNat (nat_lit 0))), (.int .i64 (.ofNat (nat_lit 0))), (.int .i64 (.ofNat (nat_lit 0))), (.int .i64 (.ofNat (nat_lit 0))), (.str (sb [])), (.str (sb [])), (.str (sb [])), (.str (sb [])), (.int .i64 (.ofNat (nat_lit 0))), (.int .i64 (.ofNat (nat_lit 0))), (.int .i64 (.ofNat (nat_lit 0))), (.int .i64 (.ofNat (nat_lit 0))), (.int .i64 (.ofNat (nat_lit 0))), (.int .i64 (.ofNat (nat_lit 0))), (.int .i64 (.ofNat (nat_lit 0))), (.int .i64 (.ofNat (nat_lit 0))), (.bool false), (.int .i64 (.ofNat (nat_lit 0))), (.int .i64 (.ofNat (nat_lit 0))), (.int .i64 (.ofNat (nat_lit 0))), (.int .i64 (.ofNat (nat_lit 0))), (.int .i64 (.ofNat (nat_lit 0))), (.int .i64 (.ofNat (nat_lit 0))), (.int .i64 (.ofNat (nat_lit 0))), (.str (sb []))] []) h fun x3 h =>
  bndE (rSt h 51 x3 x12) h fun _ h =>
  bndV (rNilc x0) fun x14 =>
  bndV (rFa 2 x14) fun x15 =>
  bndV (rLd h x15) fun x16 =>
  bndV (rEql x16 (.int .i64 (.ofNat (nat_lit 0)))) fun x19 =>
  (f208_2 x0 x2 x3 x16 x19 h)
noncomputable def f208 (vs : List V) (h : HT) : Option J := unc1 vs fun x0 =>
  (f208_3 x0 h)

/- (*concord/core.Core).begin -/
noncomputable def l128 : List (Nat × (List V → HT → Option J)) := [(206, f206), (207, f207), (208, f208)]
noncomputable def t128 : Fns := tab l128

noncomputable def f128 (vs : List V) (h : HT) : Option J := unc2 vs fun x0 x1 =>
  bndC (f206 [x0, x1] h) fun x6 h =>
  bndV (rNilc x1) fun x11 =>
  bndV (rFa 21 x11) fun x12 =>
  bndV (rLdN h 7 x12) fun x13 =>
  bndC (f208 [x1] h) fun x9 h =>
  chk1 (sameE (rLdN h 7 x12) x13) (bndC (f207 [x0, x9, x13] h) fun x14 h =>
  ret1 (.tuple []) h)

/- (*concord/core.Core).Propose -/
noncomputable def l50 : List (Nat × (List V → HT → Option J)) := [(48, f48), (101, f101), (125, f125), (126, f126), (127, f127), (128, f128)]
noncomputable def t50 : Fns := tab l50
noncomputable def f50_0 (x0 : V) (x3 : V) (x4 : V) (x6 : V) (x7 : V) (h : HT) : Option J := bndV (rLdN h 2 x6) fun x58 =>
  bndV (rLdN h 7 x3) fun x59 =>
  bndV (rLdN h 8 x7) fun x60 =>
  bndV (rBld [(.int .i64 (.ofNat (nat_lit 0))), (.int .i64 (.ofNat (nat_lit 0))), (.int .i64 (.ofNat (nat_lit 0))), (.int .i64 (.ofNat (nat_lit 0))), (.int .i64 (.ofNat (nat_lit 0))), (.int .i64 (.ofNat (nat_lit 0))), (.int .i64 (.ofNat (nat_lit 0))), (.int .i64 (.ofNat (nat_lit 0))), (.str (sb [])), (.str (sb [])), (.str (sb [])), (.str (sb [])), (.int .i64 (.ofNat (nat_lit 0))), (.int .i64 (.ofNat (nat_lit 0))), (.int .i64 (.ofNat (nat_lit 0))), (.int .i64 (.ofNat (nat_lit 0))), (.int .i64 (.ofNat (nat_lit 0))), (.int .i64 (.ofNat (nat_lit 0))), (.int .i64 (.ofNat (nat_lit 0))), (.int .i64 (.ofNat (nat_lit 0))), (.bool false)] [(0, 1), (5, 7), (12, 8), (20, 1)] [(.int .i64 (.ofNat (nat_lit 1))), x59, x60, (.bool true)]) fun x61 =>
  bndC (f127 [x0, x58, x61] h) fun x62 h =>
  bndV (rLdN h 2 x6) fun x64 =>
  bndV (rLdN h 7 x3) fun x65 =>
  bndV (rLdN h 8 x7) fun x66 =>
  bndV (rBld [(.int .i64 (.ofNat (nat_lit 0))), (.int .i64 (.ofNat (nat_lit 0))), (.int .i64 (.ofNat (nat_lit 0))), (.int .i64 (.ofNat (nat_lit 0))), (.int .i64 (.ofNat (nat_lit 0))), (.bool false), (.int .i64 (.ofNat (nat_lit 0))), (.int .i64 (.ofNat (nat_lit 0))), (.int .i64 (.ofNat (nat_lit 0))), (.str (sb [])), (.str (sb [])), (.str (sb [])), (.str (sb [])), (.int .i64 (.ofNat (nat_lit 0))), (.int .i64 (.ofNat (nat_lit 0))), (.int .i64 (.ofNat (nat_lit 0))), (.int .i64 (.ofNat (nat_lit 0))), (.int .i64 (.ofNat (nat_lit 0))), (.int .i64 (.ofNat (nat_lit 0))), (.int .i64 (.ofNat (nat_lit 0))), (.int .i64 (.ofNat (nat_lit 0))), (.int .i64 (.ofNat (nat_lit 0))), (.int .i64 (.ofNat (nat_lit 0))), (.int .i64 (.ofNat (nat_lit 0))), (.int .i64 (.ofNat (nat_lit 0))), (.int .i64 (.ofNat (nat_lit 0))), (.int .i64 (.ofNat (nat_lit 0))), (.int .i64 (.ofNat (nat_lit 0))), (.slice none 0 true 0), (.slice none 0 true 0), (.int .i64 (.ofNat (nat_lit 0))), (.int .i64 (.ofNat (nat_lit 0)))] [(0, 2), (2, 1), (5, 1), (6, 7), (13, 8)] [x64, (.int .i64 (.ofNat (nat_lit 0))), (.bool true), x65, x66]) fun x67 =>
  bndN (rBox x67) h fun x68 h =>
  bndC (f128 [x0, x68] h) fun x69 h =>
  bndV (rLdN h 2 x6) fun x70 =>
  bndE (rSt h 2 x4 x70) h fun _ h =>
  bndV (qLd h (some 2) [x4]) fun x900000 =>
  ret1 (.tuple [x900000, (.bool true)]) h
noncomputable def f50_1 (x0 : V) (x3 : V) (x4 : V) (x6 : V) (x48 : V) (h : HT) : Option J := bndV (rLd h x48) fun x49 =>
  bndV (rLdN h 2 x6) fun x50 =>
  bndV (rLdN h 7 x3) fun x51 =>
  bndN (rAlloc [(.int .i64 (.ofNat (nat_lit 0))), (.int .i64 (.ofNat (nat_lit 0))), (.int .i64 (.ofNat (nat_lit 0))), (.int .i64 (.ofNat (nat_lit 0))), (.int .i64 (.ofNat (nat_lit 0))), (.int .i64 (.ofNat (nat_lit 0))), (.int .i64 (.ofNat (nat_lit 0))), (.int .i64 (.ofNat (nat_lit 0)))] []) h fun x7 h =>
  bndC (f126 [x49, x50, x51] h) fun x52 h =>
  bndE (rSt h 8 x7 x52) h fun _ h =>
  bndV (rLdN h 8 x7) fun x53 =>
  bndC (f101 [x53] h) fun x54 h =>
  bndV (rNot x54) fun x55 =>
  tstv x55 (bndV (rBld [(.int .i64 (.ofNat (nat_lit 0))), (.int .i64 (.ofNat (nat_lit 0)))] [] []) fun x56 =>
  bndE (rSt h 2 x4 x56) h fun _ h =>
  bndV (qLd h (some 2) [x4]) fun x900000 =>
  ret1 (.tuple [x900000, (.bool false)]) h)
  ((f50_0 x0 x3 x4 x6 x7 h))
noncomputable def f50_2 (x0 : V) (x3 : V) (x4 : V) (x6 : V) (x36 : V) (h : HT) : Option J := bndC (gsel x36 false (retV (kMov [x0]) h) h) fun x38 h =>
  bndC (gsel x36 false (retV (rNilc x38) h) h) fun x39 h =>
  bndC (gsel x36 false (retV (rFa 4 x39) h) h) fun x40 h =>
  bndC (gsel x36 false (retV (rLd h x40) h) h) fun x41 h =>
  bndC (gsel x36 false (retV (rLenS x41) h) h) fun x42 h =>
  bndC (gsel x36 false (retV (rGeq x42 (.int .i64 (.ofNat (nat_lit 256)))) h) h) fun x43 h =>
  bndV (rPick x36 (.bool true) x43) fun x44 =>
  tstv x44 (bndV (rBld [(.int .i64 (.ofNat (nat_lit 0))), (.int .i64 (.ofNat (nat_lit 0)))] [] []) fun x45 =>
  bndE (rSt h 2 x4 x45) h fun _ h =>
  bndV (qLd h (some 2) [x4]) fun x900000 =>
  ret1 (.tuple [x900000, (.bool false)]) h)
  (bndV (rNilc x0) fun x47 =>
  bndV (rFa 3 x47) fun x48 =>
  (f50_1 x0 x3 x4 x6 x48 h))
noncomputable def f50_3 (x0 : V) (x3 : V) (x4 : V) (x6 : V) (x11 : V) (x21 : V) (h : HT) : Option J := bndV (rAdd x21 (.int .i64 (.ofNat (nat_lit 1)))) fun x22 =>
  bndV (rBld [(.int .i64 (.ofNat (nat_lit 0))), (.int .i64 (.ofNat (nat_lit 0)))] [(0, 1), (1, 1)] [x11, x22]) fun x23 =>
  bndE (rSt h 2 x6 x23) h fun _ h =>
  bndV (rLdN h 7 x3) fun x24 =>
  bndC (f48 [x24] h) fun x25 h =>
  bndV (rNot x25) fun x26 =>
  bndC (gsel x26 false (retV (rFa 0 x3) h) h) fun x28 h =>
  bndC (gsel x26 false (retV (rLd h x28) h) h) fun x29 h =>
  bndC (gsel x26 false (retV (rEql x29 (.int .i64 (.ofNat (nat_lit 0)))) h) h) fun x30 h =>
  bndV (rPick x26 (.bool true) x30) fun x31 =>
  bndC (gsel x31 false (retV (rFa 1 x6) h) h) fun x33 h =>
  bndC (gsel x31 false (retV (rLd h x33) h) h) fun x34 h =>
  bndC (gsel x31 false (retV (rGtr x34 (.int .i64 (.ofNat (nat_lit 1073741824)))) h) h) fun x35 h =>
  bndV (rPick x31 (.bool true) x35) fun x36 =>
  (f50_2 x0 x3 x4 x6 x36 h)
noncomputable def f50_4 (x0 : V) (x3 : V) (x4 : V) (h : HT) : Option J := bndV (rNilc x0) fun x9 =>
  bndV (rFa 1 x9) fun x10 =>
  bndV (rLd h x10) fun x11 =>
  bndV (rNilc x0) fun x13 =>
  bndV (rFa 2 x13) fun x14 =>
  bndV (rLd h x14) fun x15 =>
  bndV (rNilc x0) fun x18 =>
  bndV (rFa 1 x18) fun x19 =>
  bndV (rLd h x19) fun x20 =>
  bndN (rAlloc [(.int .i64 (.ofNat (nat_lit 0))), (.int .i64 (.ofNat (nat_lit 0)))] []) h fun x6 h =>
  bndC (f125 [x15] h) fun x16 h =>
  chk1 (sameE (rLd h x19) x20) (chk1 (sameE (rLd h x10) x11) (bndV (rIxA 7 1 x16 x20) fun x21 =>
  (f50_3 x0 x3 x4 x6 x11 x21 h)))
noncomputable def f50 (vs : List V) (h : HT) : Option J := unc2 vs fun x0 x1 =>
  bndN (rBox x1) h fun x3 h =>
  bndN (rAlloc [(.int .i64 (.ofNat (nat_lit 0))), (.int .i64 (.ofNat (nat_lit 0)))] []) h fun x4 h =>
  (f50_4 x0 x3 x4 h)

/- slices.Index[[]concord/api.Inst,concord/api.Inst] -/
noncomputable def l129 : List (Nat × (List V → HT → Option J)) := []
noncomputable def t129 : Fns := tab l129
noncomputable def f129_0 (x0 : V) (x3 : V) (x7 : V) (h : HT) : Option J := bndJ (loopF (fun rc vs h => unc1 vs fun x8 =>
  bndV (rLss x8 x7) fun x9 =>
  tstv x9 (bndV (rLdN h 2 x3) fun x11 =>
  bndV (rIaS 2 x0 x8) fun x14 =>
  bndV (rLdN h 2 x14) fun x15 =>
  bndV (kEqF false [.i, .i] [x11, x15]) fun x16 =>
  tstv x16 (some ⟨1, [x8], h⟩)
  (bndV (rAdd x8 (.int .i64 (.ofNat (nat_lit 1)))) fun x18 =>
  rc [x18] h))
  (some ⟨0, [], h⟩)) 1000000 [(.int .i64 (.ofNat (nat_lit 0)))] h)
  fun j vs h => nsw j (ret1 (.int .i64 (.negSucc (nat_lit 0))) h)
  fun j => unc1 vs fun x4 =>
  ret1 x4 h
noncomputable def f129 (vs : List V) (h : HT) : Option J := unc2 vs fun x0 x1 =>
  bndN (rBox x1) h fun x3 h =>
  bndV (rLenS x0) fun x7 =>
  (f129_0 x0 x3 x7 h)

/- slices.Contains[[]concord/api.Inst,concord/api.Inst] -/
noncomputable def l51 : List (Nat × (List V → HT → Option J)) := [(129, f129)]
noncomputable def t51 : Fns := tab l51

noncomputable def f51 (vs : List V) (h : HT) : Option J := unc2 vs fun x0 x1 =>
  bndN (rBox x1) h fun x3 h =>
  bndV (rLdN h 2 x3) fun x6 =>
  bndC (f129 [x0, x6] h) fun x7 h =>
  bndV (rGeq x7 (.int .i64 (.ofNat (nat_lit 0)))) fun x8 =>
  ret1 x8 h

/- (*concord/node.Node).Ask -/
noncomputable def l12 : List (Nat × (List V → HT → Option J)) := [(45, f45), (48, f48), (49, f49), (50, f50), (51, f51)]
noncomputable def t12 : Fns := tab l12
noncomputable def f12_0 (x0 : V) (x3 : V) (x49 : V) (h : HT) : Option J := tstv x49 (bndV (rNilc x0) fun x52 =>
  bndV (rFa 4 x52) fun x53 =>
  bndV (rLd h x53) fun x54 =>
  bndV (rLdN h 7 x3) fun x55 =>
  bndN (rAlloc [(.int .i64 (.ofNat (nat_lit 0))), (.int .i64 (.ofNat (nat_lit 0)))] []) h fun x7 h =>
  bndC (f50 [x54, x55] h) fun x56 h =>
  bndV (rExt 0 x56) fun x57 =>
  bndV (rExt 1 x56) fun x58 =>
  bndE (rSt h 2 x7 x57) h fun _ h =>
  bndV (rNot x58) fun x60 =>
  tstv x60 (some ⟨0, [(.int .i64 (.ofNat (nat_lit 7)))], h⟩)
  (some ⟨1, [], h⟩))
  (some ⟨1, [], h⟩)
noncomputable def f12_1 (x0 : V) (x6 : V) (x67 : V) (h : HT) : Option J := bndJ (tstv x67 (bndV (rNilc x0) fun x70 =>
  bndV (rFa 71 x70) fun x71 =>
  bndV (rLd h x71) fun x72 =>
  bndV (rLdN h 2 x6) fun x73 =>
  bndN (rBsl 2 1 [(.int .i64 (.ofNat (nat_lit 0))), (.int .i64 (.ofNat (nat_lit 0)))] [(0, 2)] [x73]) h fun x74 h =>
  bndE (dApp h 2 16 [x72, x74]) h fun x75 h =>
  bndV (rNilc x0) fun x76 =>
  bndV (rFa 71 x76) fun x77 =>
  bndE (rSt h 1 x77 x75) h fun _ h =>
  some ⟨0, [], h⟩)
  (some ⟨0, [], h⟩))
  fun j vs h => bndC (f45 [x0] h) fun x79 h =>
  ret1 (.int .i64 (.ofNat (nat_lit 0))) h
noncomputable def f12_2 (x0 : V) (x3 : V) (x6 : V) (x43 : V) (x45 : V) (x46 : V) (h : HT) : Option J := bndC (gsel x43 true (f49 [x45, x46] h) h) fun x47 h =>
  bndC (gsel x43 true (retV (rNot x47) h) h) fun x48 h =>
  bndV (rPick x43 x48 (.bool false)) fun x49 =>
  bndJ ((f12_0 x0 x3 x49 h))
  fun j vs h => nsw j (unc1 vs fun x4 =>
  ret1 x4 h)
  fun j => bndV (rNilc x0) fun x62 =>
  bndV (rFa 71 x62) fun x63 =>
  bndV (rLd h x63) fun x64 =>
  bndV (rLdN h 2 x6) fun x65 =>
  bndC (f51 [x64, x65] h) fun x66 h =>
  bndV (rNot x66) fun x67 =>
  (f12_1 x0 x6 x67 h)
noncomputable def f12_3 (x0 : V) (x3 : V) (x30 : V) (x34 : V) (h : HT) : Option J := tstv x34 (ret1 (.int .i64 (.ofNat (nat_lit 9))) h)
  (bndV (rFa 1 x3) fun x35 =>
  bndV (rLd h x35) fun x36 =>
  bndV (rFa 2 x3) fun x37 =>
  bndV (rLd h x37) fun x38 =>
  bndV (rBld [(.int .i64 (.ofNat (nat_lit 0))), (.int .i64 (.ofNat (nat_lit 0)))] [(0, 1), (1, 1)] [x36, x38]) fun x39 =>
  bndN (rAlloc [(.int .i64 (.ofNat (nat_lit 0))), (.int .i64 (.ofNat (nat_lit 0)))] []) h fun x6 h =>
  bndE (rSt h 2 x6 x39) h fun _ h =>
  bndV (rFa 2 x3) fun x40 =>
  bndV (rLd h x40) fun x41 =>
  bndV (rGtr x41 x30) fun x43 =>
  bndC (gsel x43 true (retV (kMov [x0]) h) h) fun x45 h =>
  bndC (gsel x43 true (retV (rLdN h 2 x6) h) h) fun x46 h =>
  (f12_2 x0 x3 x6 x43 x45 x46 h))
noncomputable def f12_4 (x0 : V) (x3 : V) (x20 : V) (h : HT) : Option J := tstv x20 (ret1 (.int .i64 (.ofNat (nat_lit 1))) h)
  (bndV (rFa 1 x3) fun x22 =>
  bndV (rLd h x22) fun x23 =>
  bndV (rSub x23 (.int .i64 (.ofNat (nat_lit 1)))) fun x24 =>
  bndV (rNilc x0) fun x25 =>
  bndV (rFa 6 x25) fun x26 =>
  bndV (rFa 1 x26) fun x27 =>
  bndV (rIaA 8 6 x27 x24) fun x28 =>
  bndV (rFa 0 x28) fun x29 =>
  bndV (rLd h x29) fun x30 =>
  bndV (rFa 2 x3) fun x31 =>
  bndV (rLd h x31) fun x32 =>
  bndV (rLss x32 x30) fun x34 =>
  (f12_3 x0 x3 x30 x34 h))
noncomputable def f12 (vs : List V) (h : HT) : Option J := unc2 vs fun x0 x1 =>
  bndN (rBox x1) h fun x3 h =>
  bndV (rNilc x0) fun x10 =>
  bndV (rFa 74 x10) fun x11 =>
  bndV (rLd h x11) fun x12 =>
  tstv x12 (ret1 (.int .i64 (.ofNat (nat_lit 10))) h)
  (bndV (rLdN h 7 x3) fun x13 =>
  bndC (f48 [x13] h) fun x14 h =>
  bndV (rNot x14) fun x15 =>
  bndC (gsel x15 false (retV (rFa 0 x3) h) h) fun x17 h =>
  bndC (gsel x15 false (retV (rLd h x17) h) h) fun x18 h =>
  bndC (gsel x15 false (retV (rEql x18 (.int .i64 (.ofNat (nat_lit 0)))) h) h) fun x19 h =>
  bndV (rPick x15 (.bool true) x19) fun x20 =>
  (f12_4 x0 x3 x20 h))

/- concord/concordlaw23.put -/
noncomputable def l13 : List (Nat × (List V → HT → Option J)) := []
noncomputable def t13 : Fns := tab l13

noncomputable def f13 (vs : List V) (h : HT) : Option J := unc3 vs fun x0 x1 x2 =>
  bndN (rAlloc [(.int .i64 (.ofNat (nat_lit 0))), (.int .i64 (.ofNat (nat_lit 0))), (.int .i64 (.ofNat (nat_lit 0))), (.str (sb [])), (.str (sb [])), (.str (sb [])), (.str (sb []))] []) h fun x6 h =>
  bndV (rBld [(.int .i64 (.ofNat (nat_lit 0))), (.int .i64 (.ofNat (nat_lit 0))), (.int .i64 (.ofNat (nat_lit 0))), (.str (sb [])), (.str (sb [])), (.str (sb [])), (.str (sb []))] [(0, 1), (1, 1), (2, 1), (3, 1)] [(.int .i64 (.ofNat (nat_lit 2))), x0, x1, x2]) fun x10 =>
  bndE (rSt h 7 x6 x10) h fun _ h =>
  bndV (qLd h (some 7) [x6]) fun x900000 =>
  ret1 x900000 h

/- concord/letter.named -/
noncomputable def l130 : List (Nat × (List V → HT → Option J)) := []
noncomputable def t130 : Fns := tab l130
noncomputable def f130_0 (x0 : V) (x2 : V) (x23 : V) (h : HT) : Option J := tstv x23 (bndV (rBld [(.bool false), (.bool false), (.bool false), (.bool false), (.bool false), (.bool false), (.bool false)] [(5, 1)] [(.bool true)]) fun x26 =>
  bndE (rSt h 7 x2 x26) h fun _ h =>
  bndV (qLd h (some 7) [x2]) fun x900000 =>
  ret1 (.tuple [x900000, (.bool true)]) h)
  (bndV (rEql x0 (.int .i64 (.ofNat (nat_lit 10)))) fun x28 =>
  tstv x28 (bndV (rBld [(.bool false), (.bool false), (.bool false), (.bool false), (.bool false), (.bool false), (.bool false)] [(6, 1)] [(.bool true)]) fun x29 =>
  bndE (rSt h 7 x2 x29) h fun _ h =>
  bndV (qLd h (some 7) [x2]) fun x900000 =>
  ret1 (.tuple [x900000, (.bool true)]) h)
  (bndV (rBld [(.bool false), (.bool false), (.bool false), (.bool false), (.bool false), (.bool false), (.bool false)] [] []) fun x30 =>
  bndE (rSt h 7 x2 x30) h fun _ h =>
  bndV (qLd h (some 7) [x2]) fun x900000 =>
  ret1 (.tuple [x900000, (.bool false)]) h))
noncomputable def f130_1 (x0 : V) (x2 : V) (x18 : V) (h : HT) : Option J := tstv x18 (bndV (rBld [(.bool false), (.bool false), (.bool false), (.bool false), (.bool false), (.bool false), (.bool false)] [(0, 1), (2, 1), (3, 1)] [(.bool true), (.bool true), (.bool true)]) fun x19 =>
  bndE (rSt h 7 x2 x19) h fun _ h =>
  bndV (qLd h (some 7) [x2]) fun x900000 =>
  ret1 (.tuple [x900000, (.bool true)]) h)
  (bndV (rEql x0 (.int .i64 (.ofNat (nat_lit 7)))) fun x21 =>
  tstv x21 (bndV (rBld [(.bool false), (.bool false), (.bool false), (.bool false), (.bool false), (.bool false), (.bool false)] [(0, 1), (1, 1), (4, 1)] [(.bool true), (.bool true), (.bool true)]) fun x22 =>
  bndE (rSt h 7 x2 x22) h fun _ h =>
  bndV (qLd h (some 7) [x2]) fun x900000 =>
  ret1 (.tuple [x900000, (.bool true)]) h)
  (bndV (rEql x0 (.int .i64 (.ofNat (nat_lit 9)))) fun x24 =>
  bndJ (tstv x24 (some ⟨0, [x24], h⟩)
  (bndV (rEql x0 (.int .i64 (.ofNat (nat_lit 11)))) fun x25 =>
  some ⟨0, [x25], h⟩))
  fun j vs h => unc1 vs fun x23 =>
  (f130_0 x0 x2 x23 h)))
noncomputable def f130_2 (x0 : V) (x2 : V) (x13 : V) (h : HT) : Option J := bndJ (tstv x13 (some ⟨0, [x13], h⟩)
  (bndV (rEql x0 (.int .i64 (.ofNat (nat_lit 6)))) fun x14 =>
  bndJ (tstv x14 (some ⟨0, [x14], h⟩)
  (bndV (rEql x0 (.int .i64 (.ofNat (nat_lit 8)))) fun x15 =>
  some ⟨0, [x15], h⟩))
  fun j vs h => unc1 vs fun x12 =>
  some ⟨0, [x12], h⟩))
  fun j vs h => unc1 vs fun x12 =>
  tstv x12 (bndV (rBld [(.bool false), (.bool false), (.bool false), (.bool false), (.bool false), (.bool false), (.bool false)] [(0, 1), (1, 1)] [(.bool true), (.bool true)]) fun x16 =>
  bndE (rSt h 7 x2 x16) h fun _ h =>
  bndV (qLd h (some 7) [x2]) fun x900000 =>
  ret1 (.tuple [x900000, (.bool true)]) h)
  (bndV (rEql x0 (.int .i64 (.ofNat (nat_lit 5)))) fun x18 =>
  (f130_1 x0 x2 x18 h))
noncomputable def f130_3 (x0 : V) (x2 : V) (x6 : V) (h : HT) : Option J := bndJ (tstv x6 (some ⟨0, [x6], h⟩)
  (bndV (rEql x0 (.int .i64 (.ofNat (nat_lit 3)))) fun x7 =>
  some ⟨0, [x7], h⟩))
  fun j vs h => unc1 vs fun x5 =>
  tstv x5 (bndV (rBld [(.bool false), (.bool false), (.bool false), (.bool false), (.bool false), (.bool false), (.bool false)] [(0, 1), (1, 1), (2, 1), (3, 1)] [(.bool true), (.bool true), (.bool true), (.bool true)]) fun x8 =>
  bndE (rSt h 7 x2 x8) h fun _ h =>
  bndV (qLd h (some 7) [x2]) fun x900000 =>
  ret1 (.tuple [x900000, (.bool true)]) h)
  (bndV (rEql x0 (.int .i64 (.ofNat (nat_lit 2)))) fun x10 =>
  tstv x10 (bndV (rBld [(.bool false), (.bool false), (.bool false), (.bool false), (.bool false), (.bool false), (.bool false)] [(0, 1), (1, 1), (3, 1)] [(.bool true), (.bool true), (.bool true)]) fun x11 =>
  bndE (rSt h 7 x2 x11) h fun _ h =>
  bndV (qLd h (some 7) [x2]) fun x900000 =>
  ret1 (.tuple [x900000, (.bool true)]) h)
  (bndV (rEql x0 (.int .i64 (.ofNat (nat_lit 4)))) fun x13 =>
  (f130_2 x0 x2 x13 h)))
noncomputable def f130 (vs : List V) (h : HT) : Option J := unc1 vs fun x0 =>
  bndN (rAlloc [(.bool false), (.bool false), (.bool false), (.bool false), (.bool false), (.bool false), (.bool false)] []) h fun x2 h =>
  bndV (rEql x0 (.int .i64 (.ofNat (nat_lit 1)))) fun x6 =>
  (f130_3 x0 x2 x6 h)

/- concord/letter.place -/
noncomputable def l131 : List (Nat × (List V → HT → Option J)) := []
noncomputable def t131 : Fns := tab l131

noncomputable def f131 (vs : List V) (h : HT) : Option J := unc1 vs fun x0 =>
  bndV (rGeq x0 (.int .i64 (.ofNat (nat_lit 0)))) fun x4 =>
  bndC (gsel x4 true (retV (kMov [x0]) h) h) fun x6 h =>
  bndC (gsel x4 true (retV (rLss x6 (.int .i64 (.ofNat (nat_lit 7)))) h) h) fun x7 h =>
  bndV (rPick x4 x7 (.bool false)) fun x8 =>
  ret1 x8 h

/- concord/letter.bare -/
noncomputable def l132 : List (Nat × (List V → HT → Option J)) := []
noncomputable def t132 : Fns := tab l132
noncomputable def f132_0 (x2 : V) (x3 : V) (x4 : V) (x5 : V) (x39 : V) (h : HT) : Option J := bndJ (tstv x39 (bndV (rFa 43 x2) fun x40 =>
  bndV (rLdN h 7 x40) fun x41 =>
  bndV (rFa 43 x5) fun x42 =>
  bndE (rSt h 7 x42 x41) h fun _ h =>
  some ⟨0, [], h⟩)
  (some ⟨0, [], h⟩))
  fun j vs h => bndV (rFa 6 x3) fun x43 =>
  bndV (rLd h x43) fun x44 =>
  bndJ (tstv x44 (bndV (rFa 50 x2) fun x45 =>
  bndV (rLd h x45) fun x46 =>
  bndV (rFa 50 x5) fun x47 =>
  bndE (rSt h 1 x47 x46) h fun _ h =>
  some ⟨0, [], h⟩)
  (some ⟨0, [], h⟩))
  fun j vs h => bndV (rLdN h 51 x5) fun x48 =>
  bndE (rSt h 51 x4 x48) h fun _ h =>
  bndV (qLd h (some 51) [x4]) fun x900000 =>
  ret1 x900000 h
noncomputable def f132_1 (x2 : V) (x3 : V) (x4 : V) (x5 : V) (x29 : V) (h : HT) : Option J := bndJ (tstv x29 (bndV (rFa 14 x2) fun x30 =>
  bndV (rLdN h 8 x30) fun x31 =>
  bndV (rFa 14 x5) fun x32 =>
  bndE (rSt h 8 x32 x31) h fun _ h =>
  some ⟨0, [], h⟩)
  (some ⟨0, [], h⟩))
  fun j vs h => bndV (rFa 4 x3) fun x33 =>
  bndV (rLd h x33) fun x34 =>
  bndJ (tstv x34 (bndV (rFa 22 x2) fun x35 =>
  bndV (rLdN h 21 x35) fun x36 =>
  bndV (rFa 22 x5) fun x37 =>
  bndE (rSt h 21 x37 x36) h fun _ h =>
  some ⟨0, [], h⟩)
  (some ⟨0, [], h⟩))
  fun j vs h => bndV (rFa 5 x3) fun x38 =>
  bndV (rLd h x38) fun x39 =>
  (f132_0 x2 x3 x4 x5 x39 h)
noncomputable def f132_2 (x2 : V) (x3 : V) (x4 : V) (x5 : V) (x19 : V) (h : HT) : Option J := bndJ (tstv x19 (bndV (rFa 5 x2) fun x20 =>
  bndV (rLdN h 2 x20) fun x21 =>
  bndV (rFa 5 x5) fun x22 =>
  bndE (rSt h 2 x22 x21) h fun _ h =>
  some ⟨0, [], h⟩)
  (some ⟨0, [], h⟩))
  fun j vs h => bndV (rFa 2 x3) fun x23 =>
  bndV (rLd h x23) fun x24 =>
  bndJ (tstv x24 (bndV (rFa 7 x2) fun x25 =>
  bndV (rLdN h 7 x25) fun x26 =>
  bndV (rFa 7 x5) fun x27 =>
  bndE (rSt h 7 x27 x26) h fun _ h =>
  some ⟨0, [], h⟩)
  (some ⟨0, [], h⟩))
  fun j vs h => bndV (rFa 3 x3) fun x28 =>
  bndV (rLd h x28) fun x29 =>
  (f132_1 x2 x3 x4 x5 x29 h)
noncomputable def f132_3 (x2 : V) (x3 : V) (x4 : V) (x12 : V) (h : HT) : Option J := bndN (rAlloc [(.int .i64 (.ofNat (nat_lit 0))), (.int .i64 (.ofNat (nat_lit 0))), (.int .i64 (.ofNat (nat_lit 0))), (.int .i64 (.ofNat (nat_lit 0))), (.int .i64 (.ofNat (nat_lit 0))), (.int .i64 (.ofNat (nat_lit 0))), (.int .i64 (.ofNat (nat_lit 0))), (.int .i64 (.ofNat (nat_lit 0))), (.int .i64 (.ofNat (nat_lit 0))), (.int .i64 (.ofNat (nat_lit 0))), (.str (sb [])), (.str (sb [])), (.str (sb [])), (.str (sb [])), (.int .i64 (.ofNat (nat_lit 0))), (.int .i64 (.ofNat (nat_lit 0))), (.int .i64 (.ofNat (nat_lit 0))), (.int .i64 (.ofNat (nat_lit 0))), (.int .i64 (.ofNat (nat_lit 0))), (.int .i64 (.ofNat (nat_lit 0))), (.int .i64 (.ofNat (nat_lit 0))), (.int .i64 (.ofNat (nat_lit 0))), (.int .i64 (.ofNat (nat_lit 0))), (.int .i64 (.ofNat (nat_lit 0))), (.int .i64 (.ofNat (nat_lit 0))), (.int .i64 (.ofNat (nat_lit 0))), (.int .i64 (.ofNat (nat_lit 0))), (.int .i64 (.ofNat (nat_lit 0))), (.int .i64 (.ofNat (nat_lit 0))), (.int .i64 (.ofNat (nat_lit 0))), (.str (sb [])), (.str (sb [])), (.str (sb [])), (.str (sb [])), (.int .i64 (.ofNat (nat_lit 0))), (.int .i64 (.ofNat (nat_lit 0))), (.int .i64 (.ofNat (nat_lit 0))), (.int .i64 (.ofNat (nat_lit 0))), (.int .i64 (.ofNat (nat_lit 0))), (.int .i64 (.ofNat (nat_lit 0))), (.int .i64 (.ofNat (nat_lit 0))), (.int .i64 (.ofNat (nat_lit 0))), (.bool false), (.int .i64 (.ofNat (nat_lit 0))), (.int .i64 (.ofNat (nat_lit 0))), (.int .i64 (.ofNat (nat_lit 0))), (.int .i64 (.ofNat (nat_lit 0))), (.int .i64 (.ofNat (nat_lit 0))), (.int .i64 (.ofNat (nat_lit 0))), (.int .i64 (.ofNat (nat_lit 0))), (.str (sb []))] []) h fun x5 h =>
  bndE (rSt h 51 x5 x12) h fun _ h =>
  bndV (rFa 0 x3) fun x13 =>
  bndV (rLd h x13) fun x14 =>
  bndJ (tstv x14 (bndV (rFa 3 x2) fun x15 =>
  bndV (rLdN h 2 x15) fun x16 =>
  bndV (rFa 3 x5) fun x17 =>
  bndE (rSt h 2 x17 x16) h fun _ h =>
  some ⟨0, [], h⟩)
  (some ⟨0, [], h⟩))
  fun j vs h => bndV (rFa 1 x3) fun x18 =>
  bndV (rLd h x18) fun x19 =>
  (f132_2 x2 x3 x4 x5 x19 h)
noncomputable def f132 (vs : List V) (h : HT) : Option J := unc2 vs fun x0 x1 =>
  bndN (rBox x0) h fun x2 h =>
  bndN (rBox x1) h fun x3 h =>
  bndN (rAlloc [(.int .i64 (.ofNat (nat_lit 0))), (.int .i64 (.ofNat (nat_lit 0))), (.int .i64 (.ofNat (nat_lit 0))), (.int .i64 (.ofNat (nat_lit 0))), (.int .i64 (.ofNat (nat_lit 0))), (.int .i64 (.ofNat (nat_lit 0))), (.int .i64 (.ofNat (nat_lit 0))), (.int .i64 (.ofNat (nat_lit 0))), (.int .i64 (.ofNat (nat_lit 0))), (.int .i64 (.ofNat (nat_lit 0))), (.str (sb [])), (.str (sb [])), (.str (sb [])), (.str (sb [])), (.int .i64 (.ofNat (nat_lit 0))), (.int .i64 (.ofNat (nat_lit 0))), (.int .i64 (.ofNat (nat_lit 0))), (.int .i64 (.ofNat (nat_lit 0))), (.int .i64 (.ofNat (nat_lit 0))), (.int .i64 (.ofNat (nat_lit 0))), (.int .i64 (.ofNat (nat_lit 0))), (.int .i64 (.ofNat (nat_lit 0))), (.int .i64 (.ofNat (nat_lit 0))), (.int .i64 (.ofNat (nat_lit 0))), (.int .i64 (.ofNat (nat_lit 0))), (.int .i64 (.ofNat (nat_lit 0))), (.int .i64 (.ofNat (nat_lit 0))), (.int .i64 (.ofNat (nat_lit 0))), (.int .i64 (.ofNat (nat_lit 0))), (.int .i64 (.ofNat (nat_lit 0))), (.str (sb [])), (.str (sb [])), (.str (sb [])), (.str (sb [])), (.int .i64 (.ofNat (nat_lit 0))), (.int .i64 (.ofNat (nat_lit 0))), (.int .i64 (.ofNat (nat_lit 0))), (.int .i64 (.ofNat (nat_lit 0))), (.int .i64 (.ofNat (nat_lit 0))), (.int .i64 (.ofNat (nat_lit 0))), (.int .i64 (.ofNat (nat_lit 0))), (.int .i64 (.ofNat (nat_lit 0))), (.bool false), (.int .i64 (.ofNat (nat_lit 0))), (.int .i64 (.ofNat (nat_lit 0))), (.int .i64 (.ofNat (nat_lit 0))), (.int .i64 (.ofNat (nat_lit 0))), (.int .i64 (.ofNat (nat_lit 0))), (.int .i64 (.ofNat (nat_lit 0))), (.int .i64 (.ofNat (nat_lit 0))), (.str (sb []))] []) h fun x4 h =>
  bndV (rFa 0 x2) fun x6 =>
  bndV (rLd h x6) fun x7 =>
  bndV (rFa 1 x2) fun x8 =>
  bndV (rLd h x8) fun x9 =>
  bndV (rFa 2 x2) fun x10 =>
  bndV (rLd h x10) fun x11 =>
  bndV (rBld [(.int .i64 (.ofNat (nat_lit 0))), (.int .i64 (.ofNat (nat_lit 0))), (.int .i64 (.ofNat (nat_lit 0))), (.int .i64 (.ofNat (nat_lit 0))), (.int .i64 (.ofNat (nat_lit 0))), (.int .i64 (.ofNat (nat_lit 0))), (.int .i64 (.ofNat (nat_lit 0))), (.int .i64 (.ofNat (nat_lit 0))), (.int .i64 (.ofNat (nat_lit 0))), (.int .i64 (.ofNat (nat_lit 0))), (.str (sb [])), (.str (sb [])), (.str (sb [])), (.str (sb [])), (.int .i64 (.ofNat (nat_lit 0))), (.int .i64 (.ofNat (nat_lit 0))), (.int .i64 (.ofNat (nat_lit 0))), (.int .i64 (.ofNat (nat_lit 0))), (.int .i64 (.ofNat (nat_lit 0))), (.int .i64 (.ofNat (nat_lit 0))), (.int .i64 (.ofNat (nat_lit 0))), (.int .i64 (.ofNat (nat_lit 0))), (.int .i64 (.ofNat (nat_lit 0))), (.int .i64 (.ofNat (nat_lit 0))), (.int .i64 (.ofNat (nat_lit 0))), (.int .i64 (.ofNat (nat_lit 0))), (.int .i64 (.ofNat (nat_lit 0))), (.int .i64 (.ofNat (nat_lit 0))), (.int .i64 (.ofNat (nat_lit 0))), (.int .i64 (.ofNat (nat_lit 0))), (.str (sb [])), (.str (sb [])), (.str (sb [])), (.str (sb [])), (.int .i64 (.ofNat (nat_lit 0))), (.int .i64 (.ofNat (nat_lit 0))), (.int .i64 (.ofNat (nat_lit 0))), (.int .i64 (.ofNat (nat_lit 0))), (.int .i64 (.ofNat (nat_lit 0))), (.int .i64 (.ofNat (nat_lit 0))), (.int .i64 (.ofNat (nat_lit 0))), (.int .i64 (.ofNat (nat_lit 0))), (.bool false), (.int .i64 (.ofNat (nat_lit 0))), (.int .i64 (.ofNat (nat_lit 0))), (.int .i64 (.ofNat (nat_lit 0))), (.int .i64 (.ofNat (nat_lit 0))), (.int .i64 (.ofNat (nat_lit 0))), (.int .i64 (.ofNat (nat_lit 0))), (.int .i64 (.ofNat (nat_lit 0))), (.str (sb []))] [(0, 1), (1, 1), (2, 1)] [x7, x9, x11]) fun x12 =>
  (f132_3 x2 x3 x4 x12 h)

/- concord/letter.Right -/
noncomputable def l54 : List (Nat × (List V → HT → Option J)) := [(48, f48), (101, f101), (130, f130), (131, f131), (132, f132), (133, f133), (134, f134), (135, f135)]
noncomputable def t54 : Fns := tab l54
noncomputable def f54_0 (x1 : V) (x64 : V) (x67 : V) (h : HT) : Option J := bndC (gsel x64 false (f135 [x67] h) h) fun x68 h =>
  bndC (gsel x64 false (retV (rNot x68) h) h) fun x69 h =>
  bndV (rPick x64 (.bool true) x69) fun x70 =>
  tstv x70 (ret1 (.bool false) h)
  (bndV (rFa 43 x1) fun x71 =>
  bndV (rLdN h 7 x71) fun x72 =>
  bndV (rBld [(.int .i64 (.ofNat (nat_lit 0))), (.int .i64 (.ofNat (nat_lit 0))), (.int .i64 (.ofNat (nat_lit 0))), (.int .i64 (.ofNat (nat_lit 0))), (.int .i64 (.ofNat (nat_lit 0))), (.int .i64 (.ofNat (nat_lit 0))), (.int .i64 (.ofNat (nat_lit 0))), (.int .i64 (.ofNat (nat_lit 0)))] [(1, 7)] [x72]) fun x73 =>
  bndC (f101 [x73] h) fun x74 h =>
  bndC (gsel x74 true (retV (rFa 50 x1) h) h) fun x76 h =>
  bndC (gsel x74 true (retV (rLd h x76) h) h) fun x77 h =>
  bndC (gsel x74 true (retV (kLenT [x77]) h) h) fun x78 h =>
  bndC (gsel x74 true (retV (rLeq x78 (.int .i64 (.ofNat (nat_lit 16384)))) h) h) fun x79 h =>
  bndV (rPick x74 x79 (.bool false)) fun x80 =>
  ret1 x80 h)
noncomputable def f54_1 (x1 : V) (x46 : V) (x50 : V) (h : HT) : Option J := bndC (gsel x46 false (retV (rNot x50) h) h) fun x51 h =>
  bndV (rPick x46 (.bool true) x51) fun x52 =>
  bndC (gsel x52 false (retV (rFa 7 x1) h) h) fun x54 h =>
  bndC (gsel x52 false (retV (rLdN h 7 x54) h) h) fun x55 h =>
  bndC (gsel x52 false (f48 [x55] h) h) fun x56 h =>
  bndC (gsel x52 false (retV (rNot x56) h) h) fun x57 h =>
  bndV (rPick x52 (.bool true) x57) fun x58 =>
  bndC (gsel x58 false (retV (rFa 14 x1) h) h) fun x60 h =>
  bndC (gsel x58 false (retV (rLdN h 8 x60) h) h) fun x61 h =>
  bndC (gsel x58 false (f101 [x61] h) h) fun x62 h =>
  bndC (gsel x58 false (retV (rNot x62) h) h) fun x63 h =>
  bndV (rPick x58 (.bool true) x63) fun x64 =>
  bndC (gsel x64 false (retV (rFa 22 x1) h) h) fun x66 h =>
  bndC (gsel x64 false (retV (rLdN h 21 x66) h) h) fun x67 h =>
  (f54_0 x1 x64 x67 h)
noncomputable def f54_2 (x1 : V) (x3 : V) (x31 : V) (x33 : V) (x36 : V) (h : HT) : Option J := bndC (gsel x31 false (retV (kEqF true [.i, .i, .i, .i, .i, .i, .i, .i, .i, .i, .s, .s, .s, .s, .i, .i, .i, .i, .i, .i, .i, .i, .i, .i, .i, .i, .i, .i, .i, .i, .s, .s, .s, .s, .i, .i, .i, .i, .i, .i, .i, .i, .b, .i, .i, .i, .i, .i, .i, .i, .s] [x33, x36]) h) h) fun x37 h =>
  bndV (rPick x31 (.bool true) x37) fun x38 =>
  tstv x38 (ret1 (.bool false) h)
  (bndV (rFa 0 x3) fun x39 =>
  bndV (rLd h x39) fun x40 =>
  bndC (gsel x40 true (retV (rFa 3 x1) h) h) fun x42 h =>
  bndC (gsel x40 true (retV (rLdN h 2 x42) h) h) fun x43 h =>
  bndC (gsel x40 true (f133 [x43] h) h) fun x44 h =>
  bndC (gsel x40 true (retV (rNot x44) h) h) fun x45 h =>
  bndV (rPick x40 x45 (.bool false)) fun x46 =>
  bndC (gsel x46 false (retV (rFa 5 x1) h) h) fun x48 h =>
  bndC (gsel x46 false (retV (rLdN h 2 x48) h) h) fun x49 h =>
  bndC (gsel x46 false (f134 [x49] h) h) fun x50 h =>
  (f54_1 x1 x46 x50 h))
noncomputable def f54_3 (x1 : V) (x3 : V) (x18 : V) (x21 : V) (h : HT) : Option J := bndC (gsel x18 false (f131 [x21] h) h) fun x22 h =>
  bndC (gsel x18 false (retV (rNot x22) h) h) fun x23 h =>
  bndV (rPick x18 (.bool true) x23) fun x24 =>
  bndC (gsel x24 false (retV (rFa 1 x1) h) h) fun x26 h =>
  bndC (gsel x24 false (retV (rLd h x26) h) h) fun x27 h =>
  bndC (gsel x24 false (retV (rFa 2 x1) h) h) fun x28 h =>
  bndC (gsel x24 false (retV (rLd h x28) h) h) fun x29 h =>
  bndC (gsel x24 false (retV (rEql x27 x29) h) h) fun x30 h =>
  bndV (rPick x24 (.bool true) x30) fun x31 =>
  bndC (gsel x31 false (retV (rLdN h 51 x1) h) h) fun x33 h =>
  bndC (gsel x31 false (retV (rLdN h 51 x1) h) h) fun x34 h =>
  bndC (gsel x31 false (retV (rLdN h 7 x3) h) h) fun x35 h =>
  bndC (gsel x31 false (f132 [x34, x35] h) h) fun x36 h =>
  chk1 (gchk x31 false (sameE (rLdN h 51 x1) x33)) ((f54_2 x1 x3 x31 x33 x36 h))
noncomputable def f54_4 (x1 : V) (x6 : V) (h : HT) : Option J := bndV (rLd h x6) fun x7 =>
  bndC (f130 [x7] h) fun x8 h =>
  bndV (rExt 0 x8) fun x9 =>
  bndV (rExt 1 x8) fun x10 =>
  bndN (rAlloc [(.bool false), (.bool false), (.bool false), (.bool false), (.bool false), (.bool false), (.bool false)] []) h fun x3 h =>
  bndE (rSt h 7 x3 x9) h fun _ h =>
  bndV (rNot x10) fun x12 =>
  bndC (gsel x12 false (retV (rFa 1 x1) h) h) fun x14 h =>
  bndC (gsel x12 false (retV (rLd h x14) h) h) fun x15 h =>
  bndC (gsel x12 false (f131 [x15] h) h) fun x16 h =>
  bndC (gsel x12 false (retV (rNot x16) h) h) fun x17 h =>
  bndV (rPick x12 (.bool true) x17) fun x18 =>
  bndC (gsel x18 false (retV (rFa 2 x1) h) h) fun x20 h =>
  bndC (gsel x18 false (retV (rLd h x20) h) h) fun x21 h =>
  (f54_3 x1 x3 x18 x21 h)
noncomputable def f54 (vs : List V) (h : HT) : Option J := unc1 vs fun x0 =>
  bndN (rBox x0) h fun x1 h =>
  bndV (rFa 0 x1) fun x6 =>
  (f54_4 x1 x6 h)

/- (*concord/node.Node).want -/
noncomputable def l136 : List (Nat × (List V → HT → Option J)) := []
noncomputable def t136 : Fns := tab l136
noncomputable def f136_0 (rc : List V → HT → Option J) (x0 : V) (x1 : V) (x2 : V) (x6 : V) (x18 : V) (h : HT) : Option J := bndV (rFa 55 x18) fun x19 =>
  bndV (rIaA 7 1 x19 x1) fun x20 =>
  bndV (rLd h x20) fun x21 =>
  bndV (rAdd x21 (.int .i64 (.ofNat (nat_lit 32)))) fun x22 =>
  bndV (rMin x2 x22) fun x23 =>
  bndV (rLeq x6 x23) fun x24 =>
  tstv x24 (bndV (rNilc x0) fun x28 =>
  bndV (rFa 4 x28) fun x29 =>
  bndV (rLd h x29) fun x30 =>
  bndV (rBld [(.int .i64 (.ofNat (nat_lit 0))), (.int .i64 (.ofNat (nat_lit 0)))] [(0, 1), (1, 1)] [x1, x6]) fun x33 =>
  bndC (noF [x30, x33] h) fun x34 h =>
  bndV (rAdd x6 (.int .i64 (.ofNat (nat_lit 1)))) fun x26 =>
  rc [x26] h)
  (some ⟨0, [], h⟩)
noncomputable def f136 (vs : List V) (h : HT) : Option J := unc3 vs fun x0 x1 x2 =>
  bndV (rNilc x0) fun x9 =>
  bndV (rFa 55 x9) fun x10 =>
  bndV (rIaA 7 1 x10 x1) fun x11 =>
  bndV (rLd h x11) fun x12 =>
  bndV (rAdd x12 (.int .i64 (.ofNat (nat_lit 1)))) fun x13 =>
  bndJ (loopF (fun rc vs h => unc1 vs fun x6 =>
  bndV (rNilc x0) fun x18 =>
  (f136_0 rc x0 x1 x2 x6 x18 h)) 1000000 [x13] h)
  fun j vs h => ret1 (.tuple []) h

/- concord/deps.Covers -/
noncomputable def l137 : List (Nat × (List V → HT → Option J)) := []
noncomputable def t137 : Fns := tab l137
noncomputable def f137_0 (x2 : V) (x7 : V) (h : HT) : Option J := bndJ (loopF (fun rc vs h => unc1 vs fun x8 =>
  bndV (rLss x8 (.int .i64 (.ofNat (nat_lit 7)))) fun x9 =>
  tstv x9 (bndV (rIxA 7 1 x7 x8) fun x11 =>
  bndV (rIaA 7 1 x2 x8) fun x14 =>
  bndV (rLd h x14) fun x15 =>
  bndV (rGtr x11 x15) fun x16 =>
  tstv x16 (some ⟨1, [(.bool false)], h⟩)
  (bndV (rAdd x8 (.int .i64 (.ofNat (nat_lit 1)))) fun x17 =>
  rc [x17] h))
  (some ⟨0, [], h⟩)) 1000000 [(.int .i64 (.ofNat (nat_lit 0)))] h)
  fun j vs h => nsw j (ret1 (.bool true) h)
  fun j => unc1 vs fun x4 =>
  ret1 x4 h
noncomputable def f137 (vs : List V) (h : HT) : Option J := unc2 vs fun x0 x1 =>
  bndN (rBox x0) h fun x2 h =>
  bndN (rBox x1) h fun x3 h =>
  bndV (rLdN h 7 x3) fun x7 =>
  (f137_0 x2 x7 h)

/- (*concord/node.Node).told -/
noncomputable def l55 : List (Nat × (List V → HT → Option J)) := [(136, f136), (137, f137)]
noncomputable def t55 : Fns := tab l55
noncomputable def f55_0 (x0 : V) (x8 : V) (h : HT) : Option J := loopF (fun rc vs h => unc2 vs fun x4 x9 =>
  bndV (rLss x9 (.int .i64 (.ofNat (nat_lit 7)))) fun x10 =>
  tstv x10 (bndV (rIxA 7 1 x8 x9) fun x12 =>
  bndC (f136 [x0, x9, x12] h) fun x16 h =>
  bndV (rNilc x0) fun x20 =>
  bndV (rFa 55 x20) fun x21 =>
  bndV (rIaA 7 1 x21 x9) fun x22 =>
  bndV (rLd h x22) fun x23 =>
  bndV (rSub x23 x12) fun x25 =>
  bndV (rAdd x4 x25) fun x26 =>
  bndV (rAdd x9 (.int .i64 (.ofNat (nat_lit 1)))) fun x27 =>
  rc [x26, x27] h)
  (some ⟨0, [x4], h⟩)) 1000000 [(.int .i64 (.ofNat (nat_lit 0))), (.int .i64 (.ofNat (nat_lit 0)))] h
noncomputable def f55_1 (x0 : V) (x3 : V) (x4 : V) (h : HT) : Option J := bndV (rNilc x0) fun x29 =>
  bndV (rFa 55 x29) fun x30 =>
  bndV (rLdN h 7 x30) fun x31 =>
  bndV (rFa 43 x3) fun x32 =>
  bndV (rLdN h 7 x32) fun x33 =>
  bndC (f137 [x31, x33] h) fun x34 h =>
  bndC (gsel x34 true (retV (kMov [x4]) h) h) fun x36 h =>
  bndC (gsel x34 true (retV (rGeq x36 (.int .i64 (.ofNat (nat_lit 32)))) h) h) fun x37 h =>
  bndV (rPick x34 x37 (.bool false)) fun x38 =>
  tstv x38 (bndV (rFa 1 x3) fun x40 =>
  bndV (rLd h x40) fun x41 =>
  bndC (noF [x0, x41] h) fun x42 h =>
  ret1 (.tuple []) h)
  (ret1 (.tuple []) h)
noncomputable def f55 (vs : List V) (h : HT) : Option J := unc2 vs fun x0 x1 =>
  bndN (rBox x1) h fun x3 h =>
  bndV (rFa 43 x3) fun x7 =>
  bndV (rLdN h 7 x7) fun x8 =>
  bndJ ((f55_0 x0 x8 h))
  fun j vs h => unc1 vs fun x4 =>
  (f55_1 x0 x3 x4 h)

/- (*concord/core.Core).one -/
noncomputable def l138 : List (Nat × (List V → HT → Option J)) := []
noncomputable def t138 : Fns := tab l138

noncomputable def f138 (vs : List V) (h : HT) : Option J := unc2 vs fun x0 x1 =>
  bndV (rGeq x1 (.int .i64 (.ofNat (nat_lit 0)))) fun x6 =>
  bndC (gsel x6 true (retV (kMov [x1]) h) h) fun x8 h =>
  bndC (gsel x6 true (retV (kMov [x0]) h) h) fun x9 h =>
  bndC (gsel x6 true (retV (rNilc x9) h) h) fun x10 h =>
  bndC (gsel x6 true (retV (rFa 0 x10) h) h) fun x11 h =>
  bndC (gsel x6 true (retV (rLd h x11) h) h) fun x12 h =>
  bndC (gsel x6 true (retV (rLss x8 x12) h) h) fun x13 h =>
  bndV (rPick x6 x13 (.bool false)) fun x14 =>
  ret1 x14 h

/- (*concord/core.Core).find -/
noncomputable def l212 : List (Nat × (List V → HT → Option J)) := []
noncomputable def t212 : Fns := tab l212
noncomputable def f212_0 (rc : List V → HT → Option J) (x3 : V) (x10 : V) (x11 : V) (vs : List V) (h : HT) : Option J := unc1 vs fun x12 =>
  bndV (rLss x12 x11) fun x13 =>
  tstv x13 (bndV (rIaS 1 x10 x12) fun x14 =>
  bndV (rLd h x14) fun x15 =>
  bndV (rNilc x15) fun x17 =>
  bndV (rFa 0 x17) fun x18 =>
  bndV (rLdN h 2 x18) fun x19 =>
  bndV (rLdN h 2 x3) fun x20 =>
  bndV (kEqF false [.i, .i] [x19, x20]) fun x21 =>
  tstv x21 (some ⟨1, [x15], h⟩)
  (bndV (rAdd x12 (.int .i64 (.ofNat (nat_lit 1)))) fun x23 =>
  rc [x23] h))
  (some ⟨0, [], h⟩)
noncomputable def f212 (vs : List V) (h : HT) : Option J := unc2 vs fun x0 x1 =>
  bndN (rBox x1) h fun x3 h =>
  bndV (rNilc x0) fun x8 =>
  bndV (rFa 4 x8) fun x9 =>
  bndV (rLd h x9) fun x10 =>
  bndV (rLenS x10) fun x11 =>
  bndJ (loopF (fun rc vs h => (f212_0 rc x3 x10 x11 vs h)) 1000000 [(.int .i64 (.ofNat (nat_lit 0)))] h)
  fun j vs h => nsw j (ret1 (.ptr none) h)
  fun j => unc1 vs fun x4 =>
  ret1 x4 h

/- concord/deps.Join -/
noncomputable def l276 : List (Nat × (List V → HT → Option J)) := []
noncomputable def t276 : Fns := tab l276
noncomputable def f276_0 (x3 : V) (x29 : V) (h : HT) : Option J := loopF (fun rc vs h => unc1 vs fun x30 =>
  bndV (rLss x30 (.int .i64 (.ofNat (nat_lit 7)))) fun x31 =>
  tstv x31 (bndV (rIxA 7 1 x29 x30) fun x33 =>
  bndV (rFa 1 x3) fun x36 =>
  bndV (rIaA 7 1 x36 x30) fun x37 =>
  bndV (rLd h x37) fun x38 =>
  bndV (rMax x38 x33) fun x40 =>
  bndV (rFa 1 x3) fun x41 =>
  bndV (rIaA 7 1 x41 x30) fun x42 =>
  bndE (rSt h 1 x42 x40) h fun _ h =>
  bndV (rAdd x30 (.int .i64 (.ofNat (nat_lit 1)))) fun x43 =>
  rc [x43] h)
  (some ⟨0, [], h⟩)) 1000000 [(.int .i64 (.ofNat (nat_lit 0)))] h
noncomputable def f276_1 (rc : List V → HT → Option J) (x3 : V) (x18 : V) (x21 : V) (h : HT) : Option J := bndN (rAlloc [(.int .i64 (.ofNat (nat_lit 0))), (.int .i64 (.ofNat (nat_lit 0))), (.int .i64 (.ofNat (nat_lit 0))), (.int .i64 (.ofNat (nat_lit 0))), (.int .i64 (.ofNat (nat_lit 0))), (.int .i64 (.ofNat (nat_lit 0))), (.int .i64 (.ofNat (nat_lit 0))), (.int .i64 (.ofNat (nat_lit 0)))] []) h fun x5 h =>
  bndE (rSt h 8 x5 x21) h fun _ h =>
  bndV (rFa 0 x3) fun x22 =>
  bndV (rLd h x22) fun x23 =>
  bndV (rFa 0 x5) fun x24 =>
  bndV (rLd h x24) fun x25 =>
  bndV (rMax x23 x25) fun x26 =>
  bndV (rFa 0 x3) fun x27 =>
  bndE (rSt h 1 x27 x26) h fun _ h =>
  bndV (rFa 1 x5) fun x28 =>
  bndV (rLdN h 7 x28) fun x29 =>
  bndJ ((f276_0 x3 x29 h))
  fun j vs h => bndV (rAdd x18 (.int .i64 (.ofNat (nat_lit 1)))) fun x44 =>
  rc [x44] h
noncomputable def f276_2 (x0 : V) (x2 : V) (x3 : V) (h : HT) : Option J := bndV (kSlS 8 true false [x0, (.int .i64 (.ofNat (nat_lit 1)))]) fun x16 =>
  bndV (rLenS x16) fun x17 =>
  bndJ (loopF (fun rc vs h => unc1 vs fun x18 =>
  bndV (rLss x18 x17) fun x19 =>
  tstv x19 (bndV (rIaS 8 x16 x18) fun x20 =>
  bndV (rLdN h 8 x20) fun x21 =>
  (f276_1 rc x3 x18 x21 h))
  (some ⟨0, [], h⟩)) 1000000 [(.int .i64 (.ofNat (nat_lit 0)))] h)
  fun j vs h => bndV (rLdN h 8 x3) fun x45 =>
  bndE (rSt h 8 x2 x45) h fun _ h =>
  bndV (qLd h (some 8) [x2]) fun x900000 =>
  ret1 x900000 h
noncomputable def f276 (vs : List V) (h : HT) : Option J := unc1 vs fun x0 =>
  bndN (rAlloc [(.int .i64 (.ofNat (nat_lit 0))), (.int .i64 (.ofNat (nat_lit 0))), (.int .i64 (.ofNat (nat_lit 0))), (.int .i64 (.ofNat (nat_lit 0))), (.int .i64 (.ofNat (nat_lit 0))), (.int .i64 (.ofNat (nat_lit 0))), (.int .i64 (.ofNat (nat_lit 0))), (.int .i64 (.ofNat (nat_lit 0)))] []) h fun x2 h =>
  bndV (rLenS x0) fun x9 =>
  bndV (rEql x9 (.int .i64 (.ofNat (nat_lit 0)))) fun x10 =>
  tstv x10 (bndV (rBld [(.int .i64 (.ofNat (nat_lit 0))), (.int .i64 (.ofNat (nat_lit 0))), (.int .i64 (.ofNat (nat_lit 0))), (.int .i64 (.ofNat (nat_lit 0))), (.int .i64 (.ofNat (nat_lit 0))), (.int .i64 (.ofNat (nat_lit 0))), (.int .i64 (.ofNat (nat_lit 0))), (.int .i64 (.ofNat (nat_lit 0)))] [] []) fun x11 =>
  bndE (rSt h 8 x2 x11) h fun _ h =>
  bndV (qLd h (some 8) [x2]) fun x900000 =>
  ret1 x900000 h)
  (bndV (rIaS 8 x0 (.int .i64 (.ofNat (nat_lit 0)))) fun x13 =>
  bndV (rLdN h 8 x13) fun x14 =>
  bndN (rAlloc [(.int .i64 (.ofNat (nat_lit 0))), (.int .i64 (.ofNat (nat_lit 0))), (.int .i64 (.ofNat (nat_lit 0))), (.int .i64 (.ofNat (nat_lit 0))), (.int .i64 (.ofNat (nat_lit 0))), (.int .i64 (.ofNat (nat_lit 0))), (.int .i64 (.ofNat (nat_lit 0))), (.int .i64 (.ofNat (nat_lit 0)))] []) h fun x3 h =>
  bndE (rSt h 8 x3 x14) h fun _ h =>
  (f276_2 x0 x2 x3 h))

/- (*concord/core.Core).pre -/
noncomputable def l214 : List (Nat × (List V → HT → Option J)) := [(101, f101), (126, f126), (127, f127), (211, f211), (276, f276)]
noncomputable def t214 : Fns := tab l214
noncomputable def f214_0 (x0 : V) (x5 : V) (x8 : V) (x9 : V) (x49 : V) (x52 : V) (x54 : V) (x56 : V) (x58 : V) (x60 : V) (x62 : V) (x63 : V) (h : HT) : Option J := bndC (gsel x52 false (retV (kMov [x49]) h) h) fun x64 h =>
  bndC (gsel x52 false (retV (rBld [(.int .i64 (.ofNat (nat_lit 0))), (.int .i64 (.ofNat (nat_lit 0))), (.int .i64 (.ofNat (nat_lit 0))), (.int .i64 (.ofNat (nat_lit 0))), (.int .i64 (.ofNat (nat_lit 0))), (.int .i64 (.ofNat (nat_lit 0))), (.int .i64 (.ofNat (nat_lit 0))), (.int .i64 (.ofNat (nat_lit 0))), (.str (sb [])), (.str (sb [])), (.str (sb [])), (.str (sb [])), (.int .i64 (.ofNat (nat_lit 0))), (.int .i64 (.ofNat (nat_lit 0))), (.int .i64 (.ofNat (nat_lit 0))), (.int .i64 (.ofNat (nat_lit 0))), (.int .i64 (.ofNat (nat_lit 0))), (.int .i64 (.ofNat (nat_lit 0))), (.int .i64 (.ofNat (nat_lit 0))), (.int .i64 (.ofNat (nat_lit 0))), (.bool false)] [(0, 1), (1, 2), (3, 2), (5, 7), (12, 8), (20, 1)] [(.int .i64 (.ofNat (nat_lit 1))), x58, x60, x62, x63, x64]) h) h) fun x65 h =>
  bndC (gsel x52 false (f127 [x54, x56, x65] h) h) fun x66 h =>
  bndC (gsel x52 false (retV (rNot x66) h) h) fun x67 h =>
  bndV (rPick x52 (.bool true) x67) fun x68 =>
  tstv x68 (ret1 (.tuple []) h)
  (bndV (rLdN h 8 x9) fun x69 =>
  bndV (rFa 14 x8) fun x70 =>
  bndE (rSt h 8 x70 x69) h fun _ h =>
  bndV (rFa 1 x5) fun x72 =>
  bndV (rLd h x72) fun x73 =>
  bndV (rLdN h 51 x8) fun x74 =>
  bndC (f211 [x0, x73, x74] h) fun x75 h =>
  ret1 (.tuple []) h)
noncomputable def f214_1 (x0 : V) (x5 : V) (x8 : V) (x9 : V) (x43 : V) (x48 : V) (h : HT) : Option J := bndV (rPick x43 x48 (.bool false)) fun x49 =>
  bndV (rLdN h 8 x9) fun x50 =>
  bndC (f101 [x50] h) fun x51 h =>
  bndV (rNot x51) fun x52 =>
  bndC (gsel x52 false (retV (kMov [x0]) h) h) fun x54 h =>
  bndC (gsel x52 false (retV (rFa 3 x5) h) h) fun x55 h =>
  bndC (gsel x52 false (retV (rLdN h 2 x55) h) h) fun x56 h =>
  bndC (gsel x52 false (retV (rFa 5 x5) h) h) fun x57 h =>
  bndC (gsel x52 false (retV (rLdN h 2 x57) h) h) fun x58 h =>
  bndC (gsel x52 false (retV (rFa 5 x5) h) h) fun x59 h =>
  bndC (gsel x52 false (retV (rLdN h 2 x59) h) h) fun x60 h =>
  bndC (gsel x52 false (retV (rFa 7 x5) h) h) fun x61 h =>
  bndC (gsel x52 false (retV (rLdN h 7 x61) h) h) fun x62 h =>
  bndC (gsel x52 false (retV (rLdN h 8 x9) h) h) fun x63 h =>
  (f214_0 x0 x5 x8 x9 x49 x52 x54 x56 x58 x60 x62 x63 h)
noncomputable def f214_2 (x0 : V) (x5 : V) (x8 : V) (x27 : V) (x28 : V) (x32 : V) (x34 : V) (x36 : V) (h : HT) : Option J := bndN (rAlloc [(.int .i64 (.ofNat (nat_lit 0))), (.int .i64 (.ofNat (nat_lit 0))), (.int .i64 (.ofNat (nat_lit 0))), (.int .i64 (.ofNat (nat_lit 0))), (.int .i64 (.ofNat (nat_lit 0))), (.int .i64 (.ofNat (nat_lit 0))), (.int .i64 (.ofNat (nat_lit 0))), (.int .i64 (.ofNat (nat_lit 0)))] []) h fun x9 h =>
  bndC (f126 [x32, x34, x36] h) fun x37 h =>
  chk1 (sameE (rLdN h 8 x27) x28) (bndN (rBsl 8 2 [(.int .i64 (.ofNat (nat_lit 0))), (.int .i64 (.ofNat (nat_lit 0))), (.int .i64 (.ofNat (nat_lit 0))), (.int .i64 (.ofNat (nat_lit 0))), (.int .i64 (.ofNat (nat_lit 0))), (.int .i64 (.ofNat (nat_lit 0))), (.int .i64 (.ofNat (nat_lit 0))), (.int .i64 (.ofNat (nat_lit 0))), (.int .i64 (.ofNat (nat_lit 0))), (.int .i64 (.ofNat (nat_lit 0))), (.int .i64 (.ofNat (nat_lit 0))), (.int .i64 (.ofNat (nat_lit 0))), (.int .i64 (.ofNat (nat_lit 0))), (.int .i64 (.ofNat (nat_lit 0))), (.int .i64 (.ofNat (nat_lit 0))), (.int .i64 (.ofNat (nat_lit 0)))] [(0, 8), (8, 8)] [x28, x37]) h fun x38 h =>
  bndC (f276 [x38] h) fun x39 h =>
  bndE (rSt h 8 x9 x39) h fun _ h =>
  bndV (rFa 5 x5) fun x40 =>
  bndV (rLdN h 2 x40) fun x41 =>
  bndV (rBld [(.int .i64 (.ofNat (nat_lit 0))), (.int .i64 (.ofNat (nat_lit 0)))] [] []) fun x42 =>
  bndV (kEqF false [.i, .i] [x41, x42]) fun x43 =>
  bndC (gsel x43 true (retV (rLdN h 8 x9) h) h) fun x45 h =>
  bndC (gsel x43 true (retV (rFa 14 x5) h) h) fun x46 h =>
  bndC (gsel x43 true (retV (rLdN h 8 x46) h) h) fun x47 h =>
  bndC (gsel x43 true (retV (kEqF false [.i, .i, .i, .i, .i, .i, .i, .i] [x45, x47]) h) h) fun x48 h =>
  (f214_1 x0 x5 x8 x9 x43 x48 h))
noncomputable def f214_3 (x0 : V) (x3 : V) (x5 : V) (x6 : V) (x8 : V) (h : HT) : Option J := tstv x3 (bndV (rFa 0 x6) fun x19 =>
  bndV (rLd h x19) fun x20 =>
  bndV (rEql x20 (.int .i64 (.ofNat (nat_lit 1)))) fun x21 =>
  tstv x21 (bndV (rFa 1 x5) fun x23 =>
  bndV (rLd h x23) fun x24 =>
  bndV (rLdN h 51 x8) fun x25 =>
  bndC (f211 [x0, x24, x25] h) fun x26 h =>
  ret1 (.tuple []) h)
  (ret1 (.tuple []) h))
  (bndV (rFa 14 x5) fun x27 =>
  bndV (rLdN h 8 x27) fun x28 =>
  bndV (rNilc x0) fun x30 =>
  bndV (rFa 3 x30) fun x31 =>
  bndV (rLd h x31) fun x32 =>
  bndV (rFa 3 x5) fun x33 =>
  bndV (rLdN h 2 x33) fun x34 =>
  bndV (rFa 7 x5) fun x35 =>
  bndV (rLdN h 7 x35) fun x36 =>
  (f214_2 x0 x5 x8 x27 x28 x32 x34 x36 h))
noncomputable def f214 (vs : List V) (h : HT) : Option J := unc4 vs fun x0 x1 x2 x3 vs =>
  bndN (rBox x1) h fun x5 h =>
  bndN (rBox x2) h fun x6 h =>
  bndV (rFa 3 x5) fun x11 =>
  bndV (rLdN h 2 x11) fun x12 =>
  bndV (rFa 5 x5) fun x13 =>
  bndV (rLdN h 2 x13) fun x14 =>
  bndV (rFa 12 x6) fun x15 =>
  bndV (rLdN h 8 x15) fun x16 =>
  bndV (rBld [(.int .i64 (.ofNat (nat_lit 0))), (.int .i64 (.ofNat (nat_lit 0))), (.int .i64 (.ofNat (nat_lit 0))), (.int .i64 (.ofNat (nat_lit 0))), (.int .i64 (.ofNat (nat_lit 0))), (.int .i64 (.ofNat (nat_lit 0))), (.int .i64 (.ofNat (nat_lit 0))), (.int .i64 (.ofNat (nat_lit 0))), (.int .i64 (.ofNat (nat_lit 0))), (.int .i64 (.ofNat (nat_lit 0))), (.str (sb [])), (.str (sb [])), (.str (sb [])), (.str (sb [])), (.int .i64 (.ofNat (nat_lit 0))), (.int .i64 (.ofNat (nat_lit 0))), (.int .i64 (.ofNat (nat_lit 0))), (.int .i64 (.ofNat (nat_lit 0))), (.int .i64 (.ofNat (nat_lit 0))), (.int .i64 (.ofNat (nat_lit 0))), (.int .i64 (.ofNat (nat_lit 0))), (.int .i64 (.ofNat (nat_lit 0))), (.int .i64 (.ofNat (nat_lit 0))), (.int .i64 (.ofNat (nat_lit 0))), (.int .i64 (.ofNat (nat_lit 0))), (.int .i64 (.ofNat (nat_lit 0))), (.int .i64 (.ofNat (nat_lit 0))), (.int .i64 (.ofNat (nat_lit 0))), (.int .i64 (.ofNat (nat_lit 0))), (.int .i64 (.ofNat (nat_lit 0))), (.str (sb [])), (.str (sb [])), (.str (sb [])), (.str (sb [])), (.int .i64 (.ofNat (nat_lit 0))), (.int .i64 (.ofNat (nat_lit 0))), (.int .i64 (.ofNat (nat_lit 0))), (.int .i64 (.ofNat (nat_lit 0))), (.int .i64 (.ofNat (nat_lit 0))), (.int .i64 (.ofNat (nat_lit 0))), (.int .i64 (.ofNat (nat_lit 0))), (.int .i64 (.ofNat (nat_lit 0))), (.bool false), (.int .i64 (.ofNat (nat_lit 0))), (.int .i64 (.ofNat (nat_lit 0))), (.int .i64 (.ofNat (nat_lit 0))), (.int .i64 (.ofNat (nat_lit 0))), (.int .i64 (.ofNat (nat_lit 0))), (.int .i64 (.ofNat (nat_lit 0))), (.int .i64 (.ofNat (nat_lit 0))), (.str (sb []))] [(0, 1), (3, 2), (5, 2), (14, 8)] [(.int .i64 (.ofNat (nat_lit 2))), x12, x14, x16]) fun x17 =>
  bndN (rAlloc [(.int .i64 (.ofNat (nat_lit 0))), (.int .i64 (.ofNat (nat_lit 0))), (.int .i64 (.ofNat (nat_lit 0))), (.int .i64 (.ofNat (nat_lit 0))), (.int .i64 (.ofNat (nat_lit 0))), (.int .i64 (.ofNat (nat_lit 0))), (.int .i64 (.ofNat (nat_lit 0))), (.int .i64 (.ofNat (nat_lit 0))), (.int .i64 (.ofNat (nat_lit 0))), (.int .i64 (.ofNat (nat_lit 0))), (.str (sb [])), (.str (sb [])), (.str (sb [])), (.str (sb [])), (.int .i64 (.ofNat (nat_lit 0))), (.int .i64 (.ofNat (nat_lit 0))), (.int .i64 (.ofNat (nat_lit 0))), (.int .i64 (.ofNat (nat_lit 0))), (.int .i64 (.ofNat (nat_lit 0))), (.int .i64 (.ofNat (nat_lit 0))), (.int .i64 (.ofNat (nat_lit 0))), (.int .i64 (.ofNat (nat_lit 0))), (.int .i64 (.ofNat (nat_lit 0))), (.int .i64 (.ofNat (nat_lit 0))), (.int .i64 (.ofNat (nat_lit 0))), (.int .i64 (.ofNat (nat_lit 0))), (.int .i64 (.ofNat (nat_lit 0))), (.int .i64 (.ofNat (nat_lit 0))), (.int .i64 (.ofNat (nat_lit 0))), (.int .i64 (.ofNat (nat_lit 0))), (.str (sb [])), (.str (sb [])), (.str (sb [])), (.str (sb [])), (.int .i64 (.ofNat (nat_lit 0))), (.int .i64 (.ofNat (nat_lit 0))), (.int .i64 (.ofNat (nat_lit 0))), (.int .i64 (.ofNat (nat_lit 0))), (.int .i64 (.ofNat (nat_lit 0))), (.int .i64 (.ofNat (nat_lit 0))), (.int .i64 (.ofNat (nat_lit 0))), (.int .i64 (.ofNat (nat_lit 0))), (.bool false), (.int .i64 (.ofNat (nat_lit 0))), (.int .i64 (.ofNat (nat_lit 0))), (.int .i64 (.ofNat (nat_lit 0))), (.int .i64 (.ofNat (nat_lit 0))), (.int .i64 (.ofNat (nat_lit 0))), (.int .i64 (.ofNat (nat_lit 0))), (.int .i64 (.ofNat (nat_lit 0))), (.str (sb []))] []) h fun x8 h =>
  bndE (rSt h 51 x8 x17) h fun _ h =>
  (f214_3 x0 x3 x5 x6 x8 h)

/- (*concord/core.Core).asked -/
noncomputable def l140 : List (Nat × (List V → HT → Option J)) := [(127, f127), (205, f205), (209, f209), (211, f211), (212, f212), (214, f214)]
noncomputable def t140 : Fns := tab l140
noncomputable def f140_0 (x0 : V) (x3 : V) (x92 : V) (x95 : V) (x97 : V) (x99 : V) (x101 : V) (x103 : V) (x104 : V) (h : HT) : Option J := bndC (gsel x92 false (retV (rLdN h 8 x104) h) h) fun x105 h =>
  bndC (gsel x92 false (retV (rBld [(.int .i64 (.ofNat (nat_lit 0))), (.int .i64 (.ofNat (nat_lit 0))), (.int .i64 (.ofNat (nat_lit 0))), (.int .i64 (.ofNat (nat_lit 0))), (.int .i64 (.ofNat (nat_lit 0))), (.int .i64 (.ofNat (nat_lit 0))), (.int .i64 (.ofNat (nat_lit 0))), (.int .i64 (.ofNat (nat_lit 0))), (.str (sb [])), (.str (sb [])), (.str (sb [])), (.str (sb [])), (.int .i64 (.ofNat (nat_lit 0))), (.int .i64 (.ofNat (nat_lit 0))), (.int .i64 (.ofNat (nat_lit 0))), (.int .i64 (.ofNat (nat_lit 0))), (.int .i64 (.ofNat (nat_lit 0))), (.int .i64 (.ofNat (nat_lit 0))), (.int .i64 (.ofNat (nat_lit 0))), (.int .i64 (.ofNat (nat_lit 0))), (.bool false)] [(0, 1), (1, 2), (3, 2), (5, 7), (12, 8)] [(.int .i64 (.ofNat (nat_lit 2))), x99, x101, x103, x105]) h) h) fun x106 h =>
  bndC (gsel x92 false (f127 [x95, x97, x106] h) h) fun x107 h =>
  bndV (rPick x92 (.bool true) x107) fun x108 =>
  tstv x108 (bndV (rFa 1 x3) fun x110 =>
  bndV (rLd h x110) fun x111 =>
  bndV (rFa 3 x3) fun x112 =>
  bndV (rLdN h 2 x112) fun x113 =>
  bndV (rFa 5 x3) fun x114 =>
  bndV (rLdN h 2 x114) fun x115 =>
  bndV (rBld [(.int .i64 (.ofNat (nat_lit 0))), (.int .i64 (.ofNat (nat_lit 0))), (.int .i64 (.ofNat (nat_lit 0))), (.int .i64 (.ofNat (nat_lit 0))), (.int .i64 (.ofNat (nat_lit 0))), (.int .i64 (.ofNat (nat_lit 0))), (.int .i64 (.ofNat (nat_lit 0))), (.int .i64 (.ofNat (nat_lit 0))), (.int .i64 (.ofNat (nat_lit 0))), (.int .i64 (.ofNat (nat_lit 0))), (.str (sb [])), (.str (sb [])), (.str (sb [])), (.str (sb [])), (.int .i64 (.ofNat (nat_lit 0))), (.int .i64 (.ofNat (nat_lit 0))), (.int .i64 (.ofNat (nat_lit 0))), (.int .i64 (.ofNat (nat_lit 0))), (.int .i64 (.ofNat (nat_lit 0))), (.int .i64 (.ofNat (nat_lit 0))), (.int .i64 (.ofNat (nat_lit 0))), (.int .i64 (.ofNat (nat_lit 0))), (.int .i64 (.ofNat (nat_lit 0))), (.int .i64 (.ofNat (nat_lit 0))), (.int .i64 (.ofNat (nat_lit 0))), (.int .i64 (.ofNat (nat_lit 0))), (.int .i64 (.ofNat (nat_lit 0))), (.int .i64 (.ofNat (nat_lit 0))), (.int .i64 (.ofNat (nat_lit 0))), (.int .i64 (.ofNat (nat_lit 0))), (.str (sb [])), (.str (sb [])), (.str (sb [])), (.str (sb [])), (.int .i64 (.ofNat (nat_lit 0))), (.int .i64 (.ofNat (nat_lit 0))), (.int .i64 (.ofNat (nat_lit 0))), (.int .i64 (.ofNat (nat_lit 0))), (.int .i64 (.ofNat (nat_lit 0))), (.int .i64 (.ofNat (nat_lit 0))), (.int .i64 (.ofNat (nat_lit 0))), (.int .i64 (.ofNat (nat_lit 0))), (.bool false), (.int .i64 (.ofNat (nat_lit 0))), (.int .i64 (.ofNat (nat_lit 0))), (.int .i64 (.ofNat (nat_lit 0))), (.int .i64 (.ofNat (nat_lit 0))), (.int .i64 (.ofNat (nat_lit 0))), (.int .i64 (.ofNat (nat_lit 0))), (.int .i64 (.ofNat (nat_lit 0))), (.str (sb []))] [(0, 1), (3, 2), (5, 2)] [(.int .i64 (.ofNat (nat_lit 4))), x113, x115]) fun x116 =>
  bndC (f211 [x0, x111, x116] h) fun x117 h =>
  ret1 (.tuple []) h)
  (ret1 (.tuple []) h)
noncomputable def f140_1 (x0 : V) (x3 : V) (x4 : V) (x75 : V) (h : HT) : Option J := bndC (gsel x75 true (retV (rFa 0 x4) h) h) fun x89 h =>
  bndC (gsel x75 true (retV (rLd h x89) h) h) fun x90 h =>
  bndC (gsel x75 true (retV (rEql x90 (.int .i64 (.ofNat (nat_lit 2)))) h) h) fun x91 h =>
  bndV (rPick x75 x91 (.bool false)) fun x92 =>
  bndC (gsel x92 false (retV (kMov [x0]) h) h) fun x95 h =>
  bndC (gsel x92 false (retV (rFa 3 x3) h) h) fun x96 h =>
  bndC (gsel x92 false (retV (rLdN h 2 x96) h) h) fun x97 h =>
  bndC (gsel x92 false (retV (rFa 5 x3) h) h) fun x98 h =>
  bndC (gsel x92 false (retV (rLdN h 2 x98) h) h) fun x99 h =>
  bndC (gsel x92 false (retV (rFa 5 x3) h) h) fun x100 h =>
  bndC (gsel x92 false (retV (rLdN h 2 x100) h) h) fun x101 h =>
  bndC (gsel x92 false (retV (rFa 7 x3) h) h) fun x102 h =>
  bndC (gsel x92 false (retV (rLdN h 7 x102) h) h) fun x103 h =>
  bndC (gsel x92 false (retV (rFa 14 x3) h) h) fun x104 h =>
  (f140_0 x0 x3 x92 x95 x97 x99 x101 x103 x104 h)
noncomputable def f140_2 (x0 : V) (x3 : V) (x4 : V) (x124 : V) (h : HT) : Option J := bndJ (tstv x124 (bndV (rFa 5 x3) fun x125 =>
  bndV (rLdN h 2 x125) fun x126 =>
  bndV (rFa 1 x4) fun x127 =>
  bndE (rSt h 2 x127 x126) h fun _ h =>
  bndV (rFa 3 x3) fun x129 =>
  bndV (rLdN h 2 x129) fun x130 =>
  bndV (rLdN h 21 x4) fun x131 =>
  bndC (f127 [x0, x130, x131] h) fun x132 h =>
  bndV (rNot x132) fun x133 =>
  tstv x133 (some ⟨0, [], h⟩)
  (some ⟨1, [], h⟩))
  (some ⟨1, [], h⟩))
  fun j vs h => nsw j (ret1 (.tuple []) h)
  fun j => bndV (rFa 1 x3) fun x135 =>
  bndV (rLd h x135) fun x136 =>
  bndV (rFa 3 x3) fun x137 =>
  bndV (rLdN h 2 x137) fun x138 =>
  bndV (rFa 5 x3) fun x139 =>
  bndV (rLdN h 2 x139) fun x140 =>
  bndV (rLdN h 21 x4) fun x141 =>
  bndV (rBld [(.int .i64 (.ofNat (nat_lit 0))), (.int .i64 (.ofNat (nat_lit 0))), (.int .i64 (.ofNat (nat_lit 0))), (.int .i64 (.ofNat (nat_lit 0))), (.int .i64 (.ofNat (nat_lit 0))), (.int .i64 (.ofNat (nat_lit 0))), (.int .i64 (.ofNat (nat_lit 0))), (.int .i64 (.ofNat (nat_lit 0))), (.int .i64 (.ofNat (nat_lit 0))), (.int .i64 (.ofNat (nat_lit 0))), (.str (sb [])), (.str (sb [])), (.str (sb [])), (.str (sb [])), (.int .i64 (.ofNat (nat_lit 0))), (.int .i64 (.ofNat (nat_lit 0))), (.int .i64 (.ofNat (nat_lit 0))), (.int .i64 (.ofNat (nat_lit 0))), (.int .i64 (.ofNat (nat_lit 0))), (.int .i64 (.ofNat (nat_lit 0))), (.int .i64 (.ofNat (nat_lit 0))), (.int .i64 (.ofNat (nat_lit 0))), (.int .i64 (.ofNat (nat_lit 0))), (.int .i64 (.ofNat (nat_lit 0))), (.int .i64 (.ofNat (nat_lit 0))), (.int .i64 (.ofNat (nat_lit 0))), (.int .i64 (.ofNat (nat_lit 0))), (.int .i64 (.ofNat (nat_lit 0))), (.int .i64 (.ofNat (nat_lit 0))), (.int .i64 (.ofNat (nat_lit 0))), (.str (sb [])), (.str (sb [])), (.str (sb [])), (.str (sb [])), (.int .i64 (.ofNat (nat_lit 0))), (.int .i64 (.ofNat (nat_lit 0))), (.int .i64 (.ofNat (nat_lit 0))), (.int .i64 (.ofNat (nat_lit 0))), (.int .i64 (.ofNat (nat_lit 0))), (.int .i64 (.ofNat (nat_lit 0))), (.int .i64 (.ofNat (nat_lit 0))), (.int .i64 (.ofNat (nat_lit 0))), (.bool false), (.int .i64 (.ofNat (nat_lit 0))), (.int .i64 (.ofNat (nat_lit 0))), (.int .i64 (.ofNat (nat_lit 0))), (.int .i64 (.ofNat (nat_lit 0))), (.int .i64 (.ofNat (nat_lit 0))), (.int .i64 (.ofNat (nat_lit 0))), (.int .i64 (.ofNat (nat_lit 0))), (.str (sb []))] [(0, 1), (3, 2), (5, 2), (22, 21)] [(.int .i64 (.ofNat (nat_lit 7))), x138, x140, x141]) fun x142 =>
  bndC (f211 [x0, x136, x142] h) fun x143 h =>
  ret1 (.tuple []) h
noncomputable def f140_3 (x0 : V) (x3 : V) (x4 : V) (x75 : V) (x77 : V) (x79 : V) (h : HT) : Option J := tstv x79 (bndV (rLdN h 51 x3) fun x81 =>
  bndV (rLdN h 21 x4) fun x82 =>
  bndC (f214 [x0, x81, x82, x75] h) fun x84 h =>
  ret1 (.tuple []) h)
  (bndV (rEql x77 (.int .i64 (.ofNat (nat_lit 3)))) fun x86 =>
  tstv x86 ((f140_1 x0 x3 x4 x75 h))
  (bndV (rEql x77 (.int .i64 (.ofNat (nat_lit 6)))) fun x119 =>
  tstv x119 (bndV (rFa 1 x4) fun x120 =>
  bndV (rLdN h 2 x120) fun x121 =>
  bndV (rFa 5 x3) fun x122 =>
  bndV (rLdN h 2 x122) fun x123 =>
  bndV (kEqF true [.i, .i] [x121, x123]) fun x124 =>
  (f140_2 x0 x3 x4 x124 h))
  (ret1 (.tuple []) h)))
noncomputable def f140_4 (x0 : V) (x3 : V) (x4 : V) (x61 : V) (h : HT) : Option J := bndJ (tstv x61 (bndV (rFa 3 x3) fun x63 =>
  bndV (rLdN h 2 x63) fun x64 =>
  bndC (noF [x0, x64] h) fun x65 h =>
  some ⟨0, [], h⟩)
  (some ⟨0, [], h⟩))
  fun j vs h => bndV (rFa 0 x4) fun x66 =>
  bndV (rLd h x66) fun x67 =>
  bndV (rNeq x67 (.int .i64 (.ofNat (nat_lit 0)))) fun x68 =>
  bndC (gsel x68 true (retV (rFa 3 x4) h) h) fun x70 h =>
  bndC (gsel x68 true (retV (rLdN h 2 x70) h) h) fun x71 h =>
  bndC (gsel x68 true (retV (rFa 5 x3) h) h) fun x72 h =>
  bndC (gsel x68 true (retV (rLdN h 2 x72) h) h) fun x73 h =>
  bndC (gsel x68 true (retV (kEqF false [.i, .i] [x71, x73]) h) h) fun x74 h =>
  bndV (rPick x68 x74 (.bool false)) fun x75 =>
  bndV (rFa 0 x3) fun x76 =>
  bndV (rLd h x76) fun x77 =>
  bndV (rEql x77 (.int .i64 (.ofNat (nat_lit 1)))) fun x79 =>
  (f140_3 x0 x3 x4 x75 x77 x79 h)
noncomputable def f140_5 (x0 : V) (x3 : V) (x4 : V) (x37 : V) (h : HT) : Option J := tstv x37 (bndV (rFa 1 x3) fun x39 =>
  bndV (rLd h x39) fun x40 =>
  bndV (rFa 3 x3) fun x41 =>
  bndV (rLdN h 2 x41) fun x42 =>
  bndV (rFa 1 x4) fun x43 =>
  bndV (rLdN h 2 x43) fun x44 =>
  bndV (rBld [(.int .i64 (.ofNat (nat_lit 0))), (.int .i64 (.ofNat (nat_lit 0))), (.int .i64 (.ofNat (nat_lit 0))), (.int .i64 (.ofNat (nat_lit 0))), (.int .i64 (.ofNat (nat_lit 0))), (.int .i64 (.ofNat (nat_lit 0))), (.int .i64 (.ofNat (nat_lit 0))), (.int .i64 (.ofNat (nat_lit 0))), (.int .i64 (.ofNat (nat_lit 0))), (.int .i64 (.ofNat (nat_lit 0))), (.str (sb [])), (.str (sb [])), (.str (sb [])), (.str (sb [])), (.int .i64 (.ofNat (nat_lit 0))), (.int .i64 (.ofNat (nat_lit 0))), (.int .i64 (.ofNat (nat_lit 0))), (.int .i64 (.ofNat (nat_lit 0))), (.int .i64 (.ofNat (nat_lit 0))), (.int .i64 (.ofNat (nat_lit 0))), (.int .i64 (.ofNat (nat_lit 0))), (.int .i64 (.ofNat (nat_lit 0))), (.int .i64 (.ofNat (nat_lit 0))), (.int .i64 (.ofNat (nat_lit 0))), (.int .i64 (.ofNat (nat_lit 0))), (.int .i64 (.ofNat (nat_lit 0))), (.int .i64 (.ofNat (nat_lit 0))), (.int .i64 (.ofNat (nat_lit 0))), (.int .i64 (.ofNat (nat_lit 0))), (.int .i64 (.ofNat (nat_lit 0))), (.str (sb [])), (.str (sb [])), (.str (sb [])), (.str (sb [])), (.int .i64 (.ofNat (nat_lit 0))), (.int .i64 (.ofNat (nat_lit 0))), (.int .i64 (.ofNat (nat_lit 0))), (.int .i64 (.ofNat (nat_lit 0))), (.int .i64 (.ofNat (nat_lit 0))), (.int .i64 (.ofNat (nat_lit 0))), (.int .i64 (.ofNat (nat_lit 0))), (.int .i64 (.ofNat (nat_lit 0))), (.bool false), (.int .i64 (.ofNat (nat_lit 0))), (.int .i64 (.ofNat (nat_lit 0))), (.int .i64 (.ofNat (nat_lit 0))), (.int .i64 (.ofNat (nat_lit 0))), (.int .i64 (.ofNat (nat_lit 0))), (.int .i64 (.ofNat (nat_lit 0))), (.int .i64 (.ofNat (nat_lit 0))), (.str (sb []))] [(0, 1), (3, 2), (5, 2)] [(.int .i64 (.ofNat (nat_lit 8))), x42, x44]) fun x45 =>
  bndC (f211 [x0, x40, x45] h) fun x46 h =>
  ret1 (.tuple []) h)
  (bndV (rFa 3 x3) fun x48 =>
  bndV (rLdN h 2 x48) fun x49 =>
  bndC (f212 [x0, x49] h) fun x50 h =>
  bndV (kEqN true [x50, (.ptr none)]) fun x52 =>
  bndC (gsel x52 true (retV (kMov [x50]) h) h) fun x54 h =>
  bndC (gsel x52 true (retV (rNilc x54) h) h) fun x55 h =>
  bndC (gsel x52 true (retV (rFa 3 x55) h) h) fun x56 h =>
  bndC (gsel x52 true (retV (rLdN h 2 x56) h) h) fun x57 h =>
  bndC (gsel x52 true (retV (rFa 5 x3) h) h) fun x58 h =>
  bndC (gsel x52 true (retV (rLdN h 2 x58) h) h) fun x59 h =>
  bndC (gsel x52 true (f209 [x57, x59] h) h) fun x60 h =>
  bndV (rPick x52 x60 (.bool false)) fun x61 =>
  (f140_4 x0 x3 x4 x61 h))
noncomputable def f140_6 (x0 : V) (x3 : V) (x4 : V) (x21 : V) (h : HT) : Option J := tstv x21 (bndV (rFa 1 x3) fun x23 =>
  bndV (rLd h x23) fun x24 =>
  bndV (rFa 3 x3) fun x25 =>
  bndV (rLdN h 2 x25) fun x26 =>
  bndV (rFa 5 x4) fun x27 =>
  bndV (rLdN h 7 x27) fun x28 =>
  bndV (rFa 12 x4) fun x29 =>
  bndV (rLdN h 8 x29) fun x30 =>
  bndV (rBld [(.int .i64 (.ofNat (nat_lit 0))), (.int .i64 (.ofNat (nat_lit 0))), (.int .i64 (.ofNat (nat_lit 0))), (.int .i64 (.ofNat (nat_lit 0))), (.int .i64 (.ofNat (nat_lit 0))), (.int .i64 (.ofNat (nat_lit 0))), (.int .i64 (.ofNat (nat_lit 0))), (.int .i64 (.ofNat (nat_lit 0))), (.int .i64 (.ofNat (nat_lit 0))), (.int .i64 (.ofNat (nat_lit 0))), (.str (sb [])), (.str (sb [])), (.str (sb [])), (.str (sb [])), (.int .i64 (.ofNat (nat_lit 0))), (.int .i64 (.ofNat (nat_lit 0))), (.int .i64 (.ofNat (nat_lit 0))), (.int .i64 (.ofNat (nat_lit 0))), (.int .i64 (.ofNat (nat_lit 0))), (.int .i64 (.ofNat (nat_lit 0))), (.int .i64 (.ofNat (nat_lit 0))), (.int .i64 (.ofNat (nat_lit 0))), (.int .i64 (.ofNat (nat_lit 0))), (.int .i64 (.ofNat (nat_lit 0))), (.int .i64 (.ofNat (nat_lit 0))), (.int .i64 (.ofNat (nat_lit 0))), (.int .i64 (.ofNat (nat_lit 0))), (.int .i64 (.ofNat (nat_lit 0))), (.int .i64 (.ofNat (nat_lit 0))), (.int .i64 (.ofNat (nat_lit 0))), (.str (sb [])), (.str (sb [])), (.str (sb [])), (.str (sb [])), (.int .i64 (.ofNat (nat_lit 0))), (.int .i64 (.ofNat (nat_lit 0))), (.int .i64 (.ofNat (nat_lit 0))), (.int .i64 (.ofNat (nat_lit 0))), (.int .i64 (.ofNat (nat_lit 0))), (.int .i64 (.ofNat (nat_lit 0))), (.int .i64 (.ofNat (nat_lit 0))), (.int .i64 (.ofNat (nat_lit 0))), (.bool false), (.int .i64 (.ofNat (nat_lit 0))), (.int .i64 (.ofNat (nat_lit 0))), (.int .i64 (.ofNat (nat_lit 0))), (.int .i64 (.ofNat (nat_lit 0))), (.int .i64 (.ofNat (nat_lit 0))), (.int .i64 (.ofNat (nat_lit 0))), (.int .i64 (.ofNat (nat_lit 0))), (.str (sb []))] [(0, 1), (3, 2), (7, 7), (14, 8)] [(.int .i64 (.ofNat (nat_lit 5))), x26, x28, x30]) fun x31 =>
  bndC (f211 [x0, x24, x31] h) fun x32 h =>
  ret1 (.tuple []) h)
  (bndV (rFa 5 x3) fun x33 =>
  bndV (rLdN h 2 x33) fun x34 =>
  bndV (rFa 1 x4) fun x35 =>
  bndV (rLdN h 2 x35) fun x36 =>
  bndC (f209 [x34, x36] h) fun x37 h =>
  (f140_5 x0 x3 x4 x37 h))
noncomputable def f140_7 (x0 : V) (x1 : V) (h : HT) : Option J := bndN (rBox x1) h fun x3 h =>
  bndV (rNilc x0) fun x11 =>
  bndV (rFa 2 x11) fun x12 =>
  bndV (rLd h x12) fun x13 =>
  bndV (rFa 3 x3) fun x14 =>
  bndV (rLdN h 2 x14) fun x15 =>
  bndN (rAlloc [(.int .i64 (.ofNat (nat_lit 0))), (.int .i64 (.ofNat (nat_lit 0))), (.int .i64 (.ofNat (nat_lit 0))), (.int .i64 (.ofNat (nat_lit 0))), (.int .i64 (.ofNat (nat_lit 0))), (.int .i64 (.ofNat (nat_lit 0))), (.int .i64 (.ofNat (nat_lit 0))), (.int .i64 (.ofNat (nat_lit 0))), (.str (sb [])), (.str (sb [])), (.str (sb [])), (.str (sb [])), (.int .i64 (.ofNat (nat_lit 0))), (.int .i64 (.ofNat (nat_lit 0))), (.int .i64 (.ofNat (nat_lit 0))), (.int .i64 (.ofNat (nat_lit 0))), (.int .i64 (.ofNat (nat_lit 0))), (.int .i64 (.ofNat (nat_lit 0))), (.int .i64 (.ofNat (nat_lit 0))), (.int .i64 (.ofNat (nat_lit 0))), (.bool false)] []) h fun x4 h =>
  bndC (f205 [x13, x15] h) fun x16 h =>
  bndV (rExt 0 x16) fun x17 =>
  bndV (rExt 1 x16) fun x18 =>
  bndE (rSt h 21 x4 x17) h fun _ h =>
  bndV (rFa 0 x4) fun x19 =>
  bndV (rLd h x19) fun x20 =>
  bndV (rEql x20 (.int .i64 (.ofNat (nat_lit 3)))) fun x21 =>
  (f140_6 x0 x3 x4 x21 h)
noncomputable def f140 (vs : List V) (h : HT) : Option J := unc2 vs fun x0 x1 =>
  (f140_7 x0 x1 h)

/- (*concord/core.Core).told -/
noncomputable def l141 : List (Nat × (List V → HT → Option J)) := [(127, f127), (205, f205), (213, f213)]
noncomputable def t141 : Fns := tab l141
noncomputable def f141_0 (x0 : V) (x3 : V) (x4 : V) (x20 : V) (h : HT) : Option J := bndV (rLdN h 2 x20) fun x21 =>
  bndC (f213 [x0, x21] h) fun x22 h =>
  bndV (rFa 3 x3) fun x24 =>
  bndV (rLdN h 2 x24) fun x25 =>
  bndV (rFa 1 x4) fun x26 =>
  bndV (rLdN h 2 x26) fun x27 =>
  bndV (rFa 3 x4) fun x28 =>
  bndV (rLdN h 2 x28) fun x29 =>
  bndV (rFa 7 x3) fun x30 =>
  bndV (rLdN h 7 x30) fun x31 =>
  bndV (rFa 14 x3) fun x32 =>
  bndV (rLdN h 8 x32) fun x33 =>
  bndV (rBld [(.int .i64 (.ofNat (nat_lit 0))), (.int .i64 (.ofNat (nat_lit 0))), (.int .i64 (.ofNat (nat_lit 0))), (.int .i64 (.ofNat (nat_lit 0))), (.int .i64 (.ofNat (nat_lit 0))), (.int .i64 (.ofNat (nat_lit 0))), (.int .i64 (.ofNat (nat_lit 0))), (.int .i64 (.ofNat (nat_lit 0))), (.str (sb [])), (.str (sb [])), (.str (sb [])), (.str (sb [])), (.int .i64 (.ofNat (nat_lit 0))), (.int .i64 (.ofNat (nat_lit 0))), (.int .i64 (.ofNat (nat_lit 0))), (.int .i64 (.ofNat (nat_lit 0))), (.int .i64 (.ofNat (nat_lit 0))), (.int .i64 (.ofNat (nat_lit 0))), (.int .i64 (.ofNat (nat_lit 0))), (.int .i64 (.ofNat (nat_lit 0))), (.bool false)] [(0, 1), (1, 2), (3, 2), (5, 7), (12, 8)] [(.int .i64 (.ofNat (nat_lit 3))), x27, x29, x31, x33]) fun x34 =>
  bndC (f127 [x0, x25, x34] h) fun x35 h =>
  ret1 (.tuple []) h
noncomputable def f141_1 (x0 : V) (x3 : V) (x9 : V) (h : HT) : Option J := bndV (rLd h x9) fun x10 =>
  bndV (rFa 3 x3) fun x11 =>
  bndV (rLdN h 2 x11) fun x12 =>
  bndN (rAlloc [(.int .i64 (.ofNat (nat_lit 0))), (.int .i64 (.ofNat (nat_lit 0))), (.int .i64 (.ofNat (nat_lit 0))), (.int .i64 (.ofNat (nat_lit 0))), (.int .i64 (.ofNat (nat_lit 0))), (.int .i64 (.ofNat (nat_lit 0))), (.int .i64 (.ofNat (nat_lit 0))), (.int .i64 (.ofNat (nat_lit 0))), (.str (sb [])), (.str (sb [])), (.str (sb [])), (.str (sb [])), (.int .i64 (.ofNat (nat_lit 0))), (.int .i64 (.ofNat (nat_lit 0))), (.int .i64 (.ofNat (nat_lit 0))), (.int .i64 (.ofNat (nat_lit 0))), (.int .i64 (.ofNat (nat_lit 0))), (.int .i64 (.ofNat (nat_lit 0))), (.int .i64 (.ofNat (nat_lit 0))), (.int .i64 (.ofNat (nat_lit 0))), (.bool false)] []) h fun x4 h =>
  bndC (f205 [x10, x12] h) fun x13 h =>
  bndV (rExt 0 x13) fun x14 =>
  bndV (rExt 1 x13) fun x15 =>
  bndE (rSt h 21 x4 x14) h fun _ h =>
  bndV (rFa 0 x4) fun x16 =>
  bndV (rLd h x16) fun x17 =>
  bndV (rEql x17 (.int .i64 (.ofNat (nat_lit 3)))) fun x18 =>
  tstv x18 (ret1 (.tuple []) h)
  (bndV (rFa 3 x3) fun x20 =>
  (f141_0 x0 x3 x4 x20 h))
noncomputable def f141 (vs : List V) (h : HT) : Option J := unc2 vs fun x0 x1 =>
  bndN (rBox x1) h fun x3 h =>
  bndV (rNilc x0) fun x8 =>
  bndV (rFa 2 x8) fun x9 =>
  (f141_1 x0 x3 x9 h)

/- (*concord/core.Core).commit -/
noncomputable def l218 : List (Nat × (List V → HT → Option J)) := [(127, f127), (205, f205), (207, f207), (213, f213)]
noncomputable def t218 : Fns := tab l218
noncomputable def f218_0 (x0 : V) (x5 : V) (x6 : V) (x7 : V) (x8 : V) (x23 : V) (x25 : V) (h : HT) : Option J := bndV (rFa 3 x8) fun x26 =>
  bndV (rLdN h 2 x26) fun x27 =>
  bndV (rLdN h 7 x6) fun x28 =>
  bndV (rLdN h 8 x7) fun x29 =>
  bndV (rBld [(.int .i64 (.ofNat (nat_lit 0))), (.int .i64 (.ofNat (nat_lit 0))), (.int .i64 (.ofNat (nat_lit 0))), (.int .i64 (.ofNat (nat_lit 0))), (.int .i64 (.ofNat (nat_lit 0))), (.int .i64 (.ofNat (nat_lit 0))), (.int .i64 (.ofNat (nat_lit 0))), (.int .i64 (.ofNat (nat_lit 0))), (.str (sb [])), (.str (sb [])), (.str (sb [])), (.str (sb [])), (.int .i64 (.ofNat (nat_lit 0))), (.int .i64 (.ofNat (nat_lit 0))), (.int .i64 (.ofNat (nat_lit 0))), (.int .i64 (.ofNat (nat_lit 0))), (.int .i64 (.ofNat (nat_lit 0))), (.int .i64 (.ofNat (nat_lit 0))), (.int .i64 (.ofNat (nat_lit 0))), (.int .i64 (.ofNat (nat_lit 0))), (.bool false)] [(0, 1), (1, 2), (3, 2), (5, 7), (12, 8)] [(.int .i64 (.ofNat (nat_lit 3))), x25, x27, x28, x29]) fun x30 =>
  bndC (f127 [x0, x23, x30] h) fun x31 h =>
  tstv x31 (bndV (rLdN h 2 x5) fun x33 =>
  bndV (rLdN h 7 x6) fun x34 =>
  bndV (rLdN h 8 x7) fun x35 =>
  bndV (rBld [(.int .i64 (.ofNat (nat_lit 0))), (.int .i64 (.ofNat (nat_lit 0))), (.int .i64 (.ofNat (nat_lit 0))), (.int .i64 (.ofNat (nat_lit 0))), (.int .i64 (.ofNat (nat_lit 0))), (.int .i64 (.ofNat (nat_lit 0))), (.int .i64 (.ofNat (nat_lit 0))), (.int .i64 (.ofNat (nat_lit 0))), (.int .i64 (.ofNat (nat_lit 0))), (.int .i64 (.ofNat (nat_lit 0))), (.str (sb [])), (.str (sb [])), (.str (sb [])), (.str (sb [])), (.int .i64 (.ofNat (nat_lit 0))), (.int .i64 (.ofNat (nat_lit 0))), (.int .i64 (.ofNat (nat_lit 0))), (.int .i64 (.ofNat (nat_lit 0))), (.int .i64 (.ofNat (nat_lit 0))), (.int .i64 (.ofNat (nat_lit 0))), (.int .i64 (.ofNat (nat_lit 0))), (.int .i64 (.ofNat (nat_lit 0))), (.int .i64 (.ofNat (nat_lit 0))), (.int .i64 (.ofNat (nat_lit 0))), (.int .i64 (.ofNat (nat_lit 0))), (.int .i64 (.ofNat (nat_lit 0))), (.int .i64 (.ofNat (nat_lit 0))), (.int .i64 (.ofNat (nat_lit 0))), (.int .i64 (.ofNat (nat_lit 0))), (.int .i64 (.ofNat (nat_lit 0))), (.str (sb [])), (.str (sb [])), (.str (sb [])), (.str (sb [])), (.int .i64 (.ofNat (nat_lit 0))), (.int .i64 (.ofNat (nat_lit 0))), (.int .i64 (.ofNat (nat_lit 0))), (.int .i64 (.ofNat (nat_lit 0))), (.int .i64 (.ofNat (nat_lit 0))), (.int .i64 (.ofNat (nat_lit 0))), (.int .i64 (.ofNat (nat_lit 0))), (.int .i64 (.ofNat (nat_lit 0))), (.bool false), (.int .i64 (.ofNat (nat_lit 0))), (.int .i64 (.ofNat (nat_lit 0))), (.int .i64 (.ofNat (nat_lit 0))), (.int .i64 (.ofNat (nat_lit 0))), (.int .i64 (.ofNat (nat_lit 0))), (.int .i64 (.ofNat (nat_lit 0))), (.int .i64 (.ofNat (nat_lit 0))), (.str (sb []))] [(0, 1), (3, 2), (7, 7), (14, 8)] [(.int .i64 (.ofNat (nat_lit 5))), x33, x34, x35]) fun x36 =>
  bndV (rBld [(.int .i64 (.ofNat (nat_lit 0))), (.int .i64 (.ofNat (nat_lit 0))), (.int .i64 (.ofNat (nat_lit 0))), (.int .i64 (.ofNat (nat_lit 0))), (.int .i64 (.ofNat (nat_lit 0))), (.int .i64 (.ofNat (nat_lit 0))), (.int .i64 (.ofNat (nat_lit 0)))] [] []) fun x37 =>
  bndC (f207 [x0, x36, x37] h) fun x38 h =>
  ret1 (.tuple []) h)
  (ret1 (.tuple []) h)
noncomputable def f218_1 (x0 : V) (x5 : V) (x6 : V) (x7 : V) (h : HT) : Option J := bndV (rLdN h 2 x5) fun x11 =>
  bndC (f213 [x0, x11] h) fun x12 h =>
  bndV (rNilc x0) fun x15 =>
  bndV (rFa 2 x15) fun x16 =>
  bndV (rLd h x16) fun x17 =>
  bndV (rLdN h 2 x5) fun x18 =>
  bndN (rAlloc [(.int .i64 (.ofNat (nat_lit 0))), (.int .i64 (.ofNat (nat_lit 0))), (.int .i64 (.ofNat (nat_lit 0))), (.int .i64 (.ofNat (nat_lit 0))), (.int .i64 (.ofNat (nat_lit 0))), (.int .i64 (.ofNat (nat_lit 0))), (.int .i64 (.ofNat (nat_lit 0))), (.int .i64 (.ofNat (nat_lit 0))), (.str (sb [])), (.str (sb [])), (.str (sb [])), (.str (sb [])), (.int .i64 (.ofNat (nat_lit 0))), (.int .i64 (.ofNat (nat_lit 0))), (.int .i64 (.ofNat (nat_lit 0))), (.int .i64 (.ofNat (nat_lit 0))), (.int .i64 (.ofNat (nat_lit 0))), (.int .i64 (.ofNat (nat_lit 0))), (.int .i64 (.ofNat (nat_lit 0))), (.int .i64 (.ofNat (nat_lit 0))), (.bool false)] []) h fun x8 h =>
  bndC (f205 [x17, x18] h) fun x19 h =>
  bndV (rExt 0 x19) fun x20 =>
  bndV (rExt 1 x19) fun x21 =>
  bndE (rSt h 21 x8 x20) h fun _ h =>
  bndV (rLdN h 2 x5) fun x23 =>
  bndV (rFa 1 x8) fun x24 =>
  bndV (rLdN h 2 x24) fun x25 =>
  (f218_0 x0 x5 x6 x7 x8 x23 x25 h)
noncomputable def f218 (vs : List V) (h : HT) : Option J := unc4 vs fun x0 x1 x2 x3 vs =>
  bndN (rBox x1) h fun x5 h =>
  bndN (rBox x2) h fun x6 h =>
  bndN (rBox x3) h fun x7 h =>
  (f218_1 x0 x5 x6 x7 h)

/- concord/quorum.Slow -/
noncomputable def l217 : List (Nat × (List V → HT → Option J)) := []
noncomputable def t217 : Fns := tab l217

noncomputable def f217 (vs : List V) (h : HT) : Option J := unc1 vs fun x0 =>
  bndV (qBin .quo [x0, (.int .i64 (.ofNat (nat_lit 2)))]) fun x4 =>
  bndV (rAdd x4 (.int .i64 (.ofNat (nat_lit 1)))) fun x5 =>
  ret1 x5 h

/- concord/quorum.Fast -/
noncomputable def l329 : List (Nat × (List V → HT → Option J)) := []
noncomputable def t329 : Fns := tab l329

noncomputable def f329 (vs : List V) (h : HT) : Option J := unc1 vs fun x0 =>
  bndV (rSub x0 (.int .i64 (.ofNat (nat_lit 1)))) fun x4 =>
  ret1 x4 h

/- concord/quorum.Pre -/
noncomputable def l277 : List (Nat × (List V → HT → Option J)) := [(217, f217), (276, f276), (329, f329)]
noncomputable def t277 : Fns := tab l277
noncomputable def f277_0 (rc : List V → HT → Option J) (x3 : V) (x7 : V) (x12 : V) (x17 : V) (h : HT) : Option J := bndV (rIaS 8 x3 x17) fun x19 =>
  bndV (rLdN h 8 x19) fun x20 =>
  bndN (rAlloc [(.int .i64 (.ofNat (nat_lit 0))), (.int .i64 (.ofNat (nat_lit 0))), (.int .i64 (.ofNat (nat_lit 0))), (.int .i64 (.ofNat (nat_lit 0))), (.int .i64 (.ofNat (nat_lit 0))), (.int .i64 (.ofNat (nat_lit 0))), (.int .i64 (.ofNat (nat_lit 0))), (.int .i64 (.ofNat (nat_lit 0)))] []) h fun x14 h =>
  bndE (rSt h 8 x14 x20) h fun _ h =>
  bndV (rLdN h 8 x14) fun x21 =>
  bndV (rLdN h 8 x7) fun x22 =>
  bndV (kEqF false [.i, .i, .i, .i, .i, .i, .i, .i] [x21, x22]) fun x23 =>
  bndJ (tstv x23 (bndV (rAdd x12 (.int .i64 (.ofNat (nat_lit 1)))) fun x25 =>
  some ⟨0, [x25], h⟩)
  (some ⟨0, [x12], h⟩))
  fun j vs h => unc1 vs fun x12 =>
  bndV (rAdd x17 (.int .i64 (.ofNat (nat_lit 1)))) fun x26 =>
  rc [x12, x26] h
noncomputable def f277_1 (x3 : V) (x7 : V) (x11 : V) (x41 : V) (x48 : V) (x52 : V) (h : HT) : Option J := bndC (gsel x48 true (retV (rLss x52 (.int .i64 (.ofNat (nat_lit 2)))) h) h) fun x53 h =>
  bndC (gsel x41 false (retV (rPick x48 x53 (.bool false)) h) h) fun x54 h =>
  bndV (rPick x41 (.bool true) x54) fun x55 =>
  tstv x55 (bndV (rBld [(.int .i64 (.ofNat (nat_lit 0))), (.int .i64 (.ofNat (nat_lit 0))), (.int .i64 (.ofNat (nat_lit 0))), (.int .i64 (.ofNat (nat_lit 0))), (.int .i64 (.ofNat (nat_lit 0))), (.int .i64 (.ofNat (nat_lit 0))), (.int .i64 (.ofNat (nat_lit 0))), (.int .i64 (.ofNat (nat_lit 0)))] [] []) fun x56 =>
  bndE (rSt h 8 x11 x56) h fun _ h =>
  bndV (qLd h (some 8) [x11]) fun x900000 =>
  ret1 (.tuple [(.int .i64 (.ofNat (nat_lit 0))), x900000]) h)
  (bndV (rLdN h 8 x7) fun x57 =>
  bndN (rBsl 8 1 [(.int .i64 (.ofNat (nat_lit 0))), (.int .i64 (.ofNat (nat_lit 0))), (.int .i64 (.ofNat (nat_lit 0))), (.int .i64 (.ofNat (nat_lit 0))), (.int .i64 (.ofNat (nat_lit 0))), (.int .i64 (.ofNat (nat_lit 0))), (.int .i64 (.ofNat (nat_lit 0))), (.int .i64 (.ofNat (nat_lit 0)))] [(0, 8)] [x57]) h fun x58 h =>
  bndE (dApp h 8 64 [x58, x3]) h fun x60 h =>
  bndC (f276 [x60] h) fun x61 h =>
  bndE (rSt h 8 x11 x61) h fun _ h =>
  bndV (qLd h (some 8) [x11]) fun x900000 =>
  ret1 (.tuple [(.int .i64 (.ofNat (nat_lit 2))), x900000]) h)
noncomputable def f277_2 (x0 : V) (x1 : V) (x3 : V) (x4 : V) (x7 : V) (x11 : V) (x12 : V) (h : HT) : Option J := bndV (rLenS x3) fun x37 =>
  bndC (f217 [x0] h) fun x39 h =>
  bndV (rSub x39 (.int .i64 (.ofNat (nat_lit 1)))) fun x40 =>
  bndV (rLss x37 x40) fun x41 =>
  bndC (gsel x41 false (retV (kMov [x1]) h) h) fun x43 h =>
  bndC (gsel x41 false (retV (kMov [x43]) h) h) fun x44 h =>
  bndC (gsel x44 true (retV (kMov [x4]) h) h) fun x45 h =>
  bndC (gsel x44 true (retV (rNot x45) h) h) fun x46 h =>
  bndC (gsel x41 false (retV (rPick x44 x46 (.bool false)) h) h) fun x47 h =>
  bndC (gsel x41 false (retV (kMov [x47]) h) h) fun x48 h =>
  bndC (gsel x48 true (retV (kMov [x3]) h) h) fun x49 h =>
  bndC (gsel x48 true (retV (rLenS x49) h) h) fun x50 h =>
  bndC (gsel x48 true (retV (kMov [x12]) h) h) fun x51 h =>
  bndC (gsel x48 true (retV (rSub x50 x51) h) h) fun x52 h =>
  (f277_1 x3 x7 x11 x41 x48 x52 h)
noncomputable def f277_3 (x0 : V) (x1 : V) (x3 : V) (x4 : V) (x7 : V) (x11 : V) (x16 : V) (h : HT) : Option J := bndJ (loopF (fun rc vs h => unc2 vs fun x12 x17 =>
  bndV (rLss x17 x16) fun x18 =>
  tstv x18 ((f277_0 rc x3 x7 x12 x17 h))
  (some ⟨0, [x12], h⟩)) 1000000 [(.int .i64 (.ofNat (nat_lit 0))), (.int .i64 (.ofNat (nat_lit 0)))] h)
  fun j vs h => unc1 vs fun x12 =>
  bndC (gsel x1 true (retV (kMov [x12]) h) h) fun x29 h =>
  bndC (gsel x1 true (retV (kMov [x0]) h) h) fun x30 h =>
  bndC (gsel x1 true (f329 [x30] h) h) fun x31 h =>
  bndC (gsel x1 true (retV (rSub x31 (.int .i64 (.ofNat (nat_lit 1)))) h) h) fun x32 h =>
  bndC (gsel x1 true (retV (rGeq x29 x32) h) h) fun x33 h =>
  bndV (rPick x1 x33 (.bool false)) fun x34 =>
  tstv x34 (bndV (rLdN h 8 x7) fun x35 =>
  bndE (rSt h 8 x11 x35) h fun _ h =>
  bndV (qLd h (some 8) [x11]) fun x900000 =>
  ret1 (.tuple [(.int .i64 (.ofNat (nat_lit 1))), x900000]) h)
  ((f277_2 x0 x1 x3 x4 x7 x11 x12 h))
noncomputable def f277 (vs : List V) (h : HT) : Option J := unc4 vs fun x0 x1 x2 x3 vs =>
  unc1 vs fun x4 =>
  bndN (rBox x2) h fun x7 h =>
  bndN (rAlloc [(.int .i64 (.ofNat (nat_lit 0))), (.int .i64 (.ofNat (nat_lit 0))), (.int .i64 (.ofNat (nat_lit 0))), (.int .i64 (.ofNat (nat_lit 0))), (.int .i64 (.ofNat (nat_lit 0))), (.int .i64 (.ofNat (nat_lit 0))), (.int .i64 (.ofNat (nat_lit 0))), (.int .i64 (.ofNat (nat_lit 0)))] []) h fun x11 h =>
  bndV (rLenS x3) fun x16 =>
  (f277_3 x0 x1 x3 x4 x7 x11 x16 h)
end Go.Cn
