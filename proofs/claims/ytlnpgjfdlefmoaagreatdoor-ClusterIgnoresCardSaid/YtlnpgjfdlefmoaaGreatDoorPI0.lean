/- Functions of the program, told as plain functions of what they are called with (printed by a program of the prover). -/
import Derived.Test.YtlnpgjfdlefmoaaGreatDoorCnCon
namespace Go.Cn
set_option maxRecDepth 100000
set_option linter.unusedVariables false
/- concord/disk.New -/
noncomputable def l8 : List (Nat × (List V → HT → Option J)) := []
noncomputable def t8 : Fns := tab l8

noncomputable def f8 (vs : List V) (h : HT) : Option J := unc1 vs fun x0 =>
  bndV (rLss x0 (.int .i64 (.ofNat (nat_lit 0)))) fun x5 =>
  bndC (gsel x5 false (retV (kMov [x0]) h) h) fun x7 h =>
  bndC (gsel x5 false (retV (rGtr x7 (.int .i64 (.ofNat (nat_lit 1048576)))) h) h) fun x8 h =>
  bndV (rPick x5 (.bool true) x8) fun x9 =>
  tstv x9 (ret1 (.tuple [(.ptr none), (.int .i64 (.ofNat (nat_lit 1)))]) h)
  (bndV (rBld [(.int .i64 (.ofNat (nat_lit 0))), (.slice none 0 true 0), (.bool false), (.bool false), (.int .i64 (.ofNat (nat_lit 0)))] [(0, 1)] [x0]) fun x11 =>
  bndN (rBox x11) h fun x12 h =>
  ret1 (.tuple [x12, (.int .i64 (.ofNat (nat_lit 0)))]) h)

/- concord/quorum.Fits -/
noncomputable def l35 : List (Nat × (List V → HT → Option J)) := []
noncomputable def t35 : Fns := tab l35

noncomputable def f35 (vs : List V) (h : HT) : Option J := unc1 vs fun x0 =>
  bndV (rEql x0 (.int .i64 (.ofNat (nat_lit 3)))) fun x4 =>
  bndC (gsel x4 false (retV (kMov [x0]) h) h) fun x6 h =>
  bndC (gsel x4 false (retV (rEql x6 (.int .i64 (.ofNat (nat_lit 5)))) h) h) fun x7 h =>
  bndV (rPick x4 (.bool true) x7) fun x8 =>
  bndC (gsel x8 false (retV (kMov [x0]) h) h) fun x10 h =>
  bndC (gsel x8 false (retV (rEql x10 (.int .i64 (.ofNat (nat_lit 7)))) h) h) fun x11 h =>
  bndV (rPick x8 (.bool true) x11) fun x12 =>
  ret1 x12 h

/- concord/front.New -/
noncomputable def l36 : List (Nat × (List V → HT → Option J)) := []
noncomputable def t36 : Fns := tab l36
noncomputable def f36_0 (x0 : V) (x1 : V) (x11 : V) (h : HT) : Option J := bndC (gsel x11 true (retV (kMov [x0]) h) h) fun x13 h =>
  bndC (gsel x11 true (retV (rNeq x13 (.int .i64 (.ofNat (nat_lit 7)))) h) h) fun x14 h =>
  bndV (rPick x11 x14 (.bool false)) fun x15 =>
  bndC (gsel x15 false (retV (kMov [x1]) h) h) fun x17 h =>
  bndC (gsel x15 false (retV (rLss x17 (.int .i64 (.ofNat (nat_lit 0)))) h) h) fun x18 h =>
  bndV (rPick x15 (.bool true) x18) fun x19 =>
  bndC (gsel x19 false (retV (kMov [x1]) h) h) fun x21 h =>
  bndC (gsel x19 false (retV (kMov [x0]) h) h) fun x22 h =>
  bndC (gsel x19 false (retV (rGeq x21 x22) h) h) fun x23 h =>
  bndV (rPick x19 (.bool true) x23) fun x24 =>
  tstv x24 (ret1 (.tuple [(.ptr none), (.int .i64 (.ofNat (nat_lit 1)))]) h)
  (bndV (rBld [(.int .i64 (.ofNat (nat_lit 0))), (.int .i64 (.ofNat (nat_lit 0))), (.int .i64 (.ofNat (nat_lit 0))), (.int .i64 (.ofNat (nat_lit 0))), (.int .i64 (.ofNat (nat_lit 0))), (.int .i64 (.ofNat (nat_lit 0))), (.int .i64 (.ofNat (nat_lit 0))), (.int .i64 (.ofNat (nat_lit 0))), (.int .i64 (.ofNat (nat_lit 0))), (.int .i64 (.ofNat (nat_lit 0))), (.int .i64 (.ofNat (nat_lit 0))), (.int .i64 (.ofNat (nat_lit 0))), (.int .i64 (.ofNat (nat_lit 0))), (.int .i64 (.ofNat (nat_lit 0))), (.int .i64 (.ofNat (nat_lit 0))), (.int .i64 (.ofNat (nat_lit 0))), (.int .i64 (.ofNat (nat_lit 0))), (.int .i64 (.ofNat (nat_lit 0))), (.int .i64 (.ofNat (nat_lit 0))), (.int .i64 (.ofNat (nat_lit 0))), (.int .i64 (.ofNat (nat_lit 0))), (.int .i64 (.ofNat (nat_lit 0))), (.int .i64 (.ofNat (nat_lit 0))), (.int .i64 (.ofNat (nat_lit 0))), (.int .i64 (.ofNat (nat_lit 0))), (.int .i64 (.ofNat (nat_lit 0))), (.int .i64 (.ofNat (nat_lit 0))), (.int .i64 (.ofNat (nat_lit 0))), (.int .i64 (.ofNat (nat_lit 0))), (.int .i64 (.ofNat (nat_lit 0))), (.int .i64 (.ofNat (nat_lit 0))), (.int .i64 (.ofNat (nat_lit 0))), (.int .i64 (.ofNat (nat_lit 0))), (.int .i64 (.ofNat (nat_lit 0))), (.int .i64 (.ofNat (nat_lit 0))), (.int .i64 (.ofNat (nat_lit 0))), (.int .i64 (.ofNat (nat_lit 0))), (.int .i64 (.ofNat (nat_lit 0))), (.int .i64 (.ofNat (nat_lit 0))), (.int .i64 (.ofNat (nat_lit 0))), (.int .i64 (.ofNat (nat_lit 0))), (.int .i64 (.ofNat (nat_lit 0))), (.int .i64 (.ofNat (nat_lit 0))), (.int .i64 (.ofNat (nat_lit 0))), (.int .i64 (.ofNat (nat_lit 0))), (.int .i64 (.ofNat (nat_lit 0))), (.int .i64 (.ofNat (nat_lit 0))), (.int .i64 (.ofNat (nat_lit 0))), (.int .i64 (.ofNat (nat_lit 0))), (.int .i64 (.ofNat (nat_lit 0))), (.int .i64 (.ofNat (nat_lit 0)))] [(0, 1), (1, 1)] [x0, x1]) fun x27 =>
  bndN (rBox x27) h fun x28 h =>
  ret1 (.tuple [x28, (.int .i64 (.ofNat (nat_lit 0)))]) h)
noncomputable def f36 (vs : List V) (h : HT) : Option J := unc2 vs fun x0 x1 =>
  bndV (rNeq x0 (.int .i64 (.ofNat (nat_lit 3)))) fun x7 =>
  bndC (gsel x7 true (retV (kMov [x0]) h) h) fun x9 h =>
  bndC (gsel x7 true (retV (rNeq x9 (.int .i64 (.ofNat (nat_lit 5)))) h) h) fun x10 h =>
  bndV (rPick x7 x10 (.bool false)) fun x11 =>
  (f36_0 x0 x1 x11 h)

/- slices.Clone[[]byte,byte] -/
noncomputable def l151 : List (Nat × (List V → HT → Option J)) := []
noncomputable def t151 : Fns := tab l151

noncomputable def f151 (vs : List V) (h : HT) : Option J := unc1 vs fun x0 =>
  bndV (kEqN false [x0, (.slice none 0 true 0)]) fun x4 =>
  tstv x4 (ret1 (.slice none 0 true 0) h)
  (bndN (rBsl 1 0 [] [] []) h fun x5 h =>
  bndE (dApp h 1 1 [x5, x0]) h fun x7 h =>
  ret1 x7 h)

/- (*concord/disk.Disk).find -/
noncomputable def l166 : List (Nat × (List V → HT → Option J)) := []
noncomputable def t166 : Fns := tab l166
noncomputable def f166_0 (rc : List V → HT → Option J) (x1 : V) (x11 : V) (x13 : V) (x14 : V) (h : HT) : Option J := tstv x14 (bndV (rIaS 3 x11 x13) fun x16 =>
  bndV (rLdN h 3 x16) fun x17 =>
  bndN (rAlloc [(.str (sb [])), (.slice none 0 true 0), (.int .i64 (.ofNat (nat_lit 0)))] []) h fun x7 h =>
  bndE (rSt h 3 x7 x17) h fun _ h =>
  bndV (rFa 0 x7) fun x18 =>
  bndV (rLd h x18) fun x19 =>
  bndV (rGeq x19 x1) fun x21 =>
  tstv x21 (bndV (rFa 0 x7) fun x23 =>
  bndV (rLd h x23) fun x24 =>
  bndV (rEql x24 x1) fun x26 =>
  some ⟨1, [x13, x26], h⟩)
  (bndV (rAdd x13 (.int .i64 (.ofNat (nat_lit 1)))) fun x27 =>
  rc [x27] h))
  (some ⟨0, [], h⟩)
noncomputable def f166_1 (x0 : V) (x1 : V) (x10 : V) (h : HT) : Option J := bndV (rLd h x10) fun x11 =>
  bndV (rLenS x11) fun x12 =>
  bndJ (loopF (fun rc vs h => unc1 vs fun x13 =>
  bndV (rLss x13 x12) fun x14 =>
  (f166_0 rc x1 x11 x13 x14 h)) 1000000 [(.int .i64 (.ofNat (nat_lit 0)))] h)
  fun j vs h => nsw j (bndV (rNilc x0) fun x29 =>
  bndV (rFa 1 x29) fun x30 =>
  bndV (rLd h x30) fun x31 =>
  bndV (rLenS x31) fun x32 =>
  ret1 (.tuple [x32, (.bool false)]) h)
  fun j => unc2 vs fun x4 x5 =>
  ret1 (.tuple [x4, x5]) h
noncomputable def f166 (vs : List V) (h : HT) : Option J := unc2 vs fun x0 x1 =>
  bndV (rNilc x0) fun x9 =>
  bndV (rFa 1 x9) fun x10 =>
  (f166_1 x0 x1 x10 h)

/- (*concord/disk.Disk).Read -/
noncomputable def l89 : List (Nat × (List V → HT → Option J)) := [(151, f151), (166, f166)]
noncomputable def t89 : Fns := tab l89

noncomputable def f89 (vs : List V) (h : HT) : Option J := unc2 vs fun x0 x1 =>
  bndC (f166 [x0, x1] h) fun x11 h =>
  bndV (rExt 0 x11) fun x12 =>
  bndV (rExt 1 x11) fun x13 =>
  bndV (rNot x13) fun x15 =>
  tstv x15 (ret1 (.tuple [(.slice none 0 true 0), (.bool false)]) h)
  (bndV (rNilc x0) fun x17 =>
  bndV (rFa 1 x17) fun x18 =>
  bndV (rLd h x18) fun x19 =>
  bndV (rIaS 3 x19 x12) fun x21 =>
  bndV (rFa 1 x21) fun x22 =>
  bndV (rLd h x22) fun x23 =>
  bndC (f151 [x23] h) fun x24 h =>
  ret1 (.tuple [x24, (.bool true)]) h)

/- (*concord/node.Node).load -/
noncomputable def l37 : List (Nat × (List V → HT → Option J)) := [(89, f89)]
noncomputable def t37 : Fns := tab l37
noncomputable def f37_0 (x0 : V) (x5 : V) (x6 : V) (x31 : V) (h : HT) : Option J := bndV (rLdN h 7 x5) fun x32 =>
  bndV (rLdN h 49 x6) fun x33 =>
  bndV (rNilc x0) fun x34 =>
  bndV (rFa 55 x34) fun x35 =>
  bndE (rSt h 7 x35 x31) h fun _ h =>
  chk1 (sameE (rLdN h 49 x6) x33) (chk1 (sameE (rLdN h 7 x5) x32) (bndV (rNilc x0) fun x36 =>
  bndV (rFa 62 x36) fun x37 =>
  bndE (rSt h 7 x37 x32) h fun _ h =>
  chk1 (sameE (rLdN h 49 x6) x33) (bndV (rNilc x0) fun x38 =>
  bndV (rFa 6 x38) fun x39 =>
  bndE (rSt h 49 x39 x33) h fun _ h =>
  some ⟨1, [], h⟩)))
noncomputable def f37_1 (x0 : V) (x16 : V) (x17 : V) (h : HT) : Option J := tstv x17 (bndC (noF [x16] h) fun x21 h =>
  bndV (rExt 0 x21) fun x22 =>
  bndV (rExt 1 x21) fun x23 =>
  bndV (rExt 2 x21) fun x24 =>
  bndN (rAlloc [(.int .i64 (.ofNat (nat_lit 0))), (.int .i64 (.ofNat (nat_lit 0))), (.int .i64 (.ofNat (nat_lit 0))), (.int .i64 (.ofNat (nat_lit 0))), (.int .i64 (.ofNat (nat_lit 0))), (.int .i64 (.ofNat (nat_lit 0))), (.int .i64 (.ofNat (nat_lit 0)))] []) h fun x5 h =>
  bndN (rAlloc [(.slice none 0 true 0), (.int .i64 (.ofNat (nat_lit 0))), (.int .i64 (.ofNat (nat_lit 0))), (.bool false), (.str (sb [])), (.int .i64 (.ofNat (nat_lit 0))), (.slice none 0 true 0), (.int .i64 (.ofNat (nat_lit 0))), (.int .i64 (.ofNat (nat_lit 0))), (.bool false), (.str (sb [])), (.int .i64 (.ofNat (nat_lit 0))), (.slice none 0 true 0), (.int .i64 (.ofNat (nat_lit 0))), (.int .i64 (.ofNat (nat_lit 0))), (.bool false), (.str (sb [])), (.int .i64 (.ofNat (nat_lit 0))), (.slice none 0 true 0), (.int .i64 (.ofNat (nat_lit 0))), (.int .i64 (.ofNat (nat_lit 0))), (.bool false), (.str (sb [])), (.int .i64 (.ofNat (nat_lit 0))), (.slice none 0 true 0), (.int .i64 (.ofNat (nat_lit 0))), (.int .i64 (.ofNat (nat_lit 0))), (.bool false), (.str (sb [])), (.int .i64 (.ofNat (nat_lit 0))), (.slice none 0 true 0), (.int .i64 (.ofNat (nat_lit 0))), (.int .i64 (.ofNat (nat_lit 0))), (.bool false), (.str (sb [])), (.int .i64 (.ofNat (nat_lit 0))), (.slice none 0 true 0), (.int .i64 (.ofNat (nat_lit 0))), (.int .i64 (.ofNat (nat_lit 0))), (.bool false), (.str (sb [])), (.int .i64 (.ofNat (nat_lit 0))), (.slice none 0 true 0), (.int .i64 (.ofNat (nat_lit 0))), (.int .i64 (.ofNat (nat_lit 0))), (.bool false), (.str (sb [])), (.int .i64 (.ofNat (nat_lit 0))), (.slice none 0 true 0)] []) h fun x6 h =>
  bndE (rSt h 7 x5 x22) h fun _ h =>
  bndE (rSt h 49 x6 x23) h fun _ h =>
  bndV (rNeq x24 (.int .i64 (.ofNat (nat_lit 0)))) fun x26 =>
  tstv x26 (some ⟨0, [x24], h⟩)
  (bndV (rLdN h 7 x5) fun x31 =>
  (f37_0 x0 x5 x6 x31 h)))
  (some ⟨1, [], h⟩)
noncomputable def f37_2 (x0 : V) (j : Nat) (vs : List V) (h : HT) : Option J := nsw j (unc1 vs fun x2 =>
  ret1 x2 h)
  fun j => bndV (rNilc x0) fun x42 =>
  bndV (rFa 2 x42) fun x43 =>
  bndV (rLd h x43) fun x44 =>
  bndC (f89 [x44, (.str (sb [105, 109, 97, 103, 101, 46, 110, 101, 119]))] h) fun x45 h =>
  bndV (rExt 0 x45) fun x46 =>
  bndV (rExt 1 x45) fun x47 =>
  tstv x47 (bndV (rNilc x0) fun x50 =>
  bndV (rFa 2 x50) fun x51 =>
  bndV (rLd h x51) fun x52 =>
  bndC (noF [x52, (.str (sb [105, 109, 97, 103, 101, 46, 110, 101, 119]))] h) fun x53 h =>
  ret1 x53 h)
  (ret1 (.int .i64 (.ofNat (nat_lit 0))) h)
noncomputable def f37 (vs : List V) (h : HT) : Option J := unc1 vs fun x0 =>
  bndV (rNilc x0) fun x12 =>
  bndV (rFa 2 x12) fun x13 =>
  bndV (rLd h x13) fun x14 =>
  bndC (f89 [x14, (.str (sb [105, 109, 97, 103, 101]))] h) fun x15 h =>
  bndV (rExt 0 x15) fun x16 =>
  bndV (rExt 1 x15) fun x17 =>
  bndJ ((f37_1 x0 x16 x17 h))
  fun j vs h => (f37_2 x0 j vs h)

/- (*concord/disk.Disk).Names -/
noncomputable def l176 : List (Nat × (List V → HT → Option J)) := []
noncomputable def t176 : Fns := tab l176
noncomputable def f176_0 (x9 : V) (x10 : V) (h : HT) : Option J := loopF (fun rc vs h => unc2 vs fun x3 x11 =>
  bndV (rLss x11 x10) fun x12 =>
  tstv x12 (bndV (rIaS 3 x9 x11) fun x13 =>
  bndV (rLdN h 3 x13) fun x14 =>
  bndN (rAlloc [(.str (sb [])), (.slice none 0 true 0), (.int .i64 (.ofNat (nat_lit 0)))] []) h fun x5 h =>
  bndE (rSt h 3 x5 x14) h fun _ h =>
  bndV (rFa 0 x5) fun x16 =>
  bndV (rLd h x16) fun x17 =>
  bndN (rBsl 1 1 [(.str (sb []))] [(0, 1)] [x17]) h fun x18 h =>
  bndE (dApp h 1 16 [x3, x18]) h fun x19 h =>
  bndV (rAdd x11 (.int .i64 (.ofNat (nat_lit 1)))) fun x20 =>
  rc [x19, x20] h)
  (some ⟨0, [x3], h⟩)) 1000000 [(.slice none 0 true 0), (.int .i64 (.ofNat (nat_lit 0)))] h
noncomputable def f176 (vs : List V) (h : HT) : Option J := unc1 vs fun x0 =>
  bndV (rNilc x0) fun x7 =>
  bndV (rFa 1 x7) fun x8 =>
  bndV (rLd h x8) fun x9 =>
  bndV (rLenS x9) fun x10 =>
  bndJ ((f176_0 x9 x10 h))
  fun j vs h => unc1 vs fun x3 =>
  ret1 x3 h

/- concord/wal.greatest -/
noncomputable def l92 : List (Nat × (List V → HT → Option J)) := [(176, f176)]
noncomputable def t92 : Fns := tab l92
noncomputable def f92_0 (x0 : V) (x3 : V) (x6 : V) (x35 : V) (h : HT) : Option J := bndC (noF [x0, x35] h) fun x36 h =>
  bndV (rExt 0 x36) fun x37 =>
  bndV (rExt 1 x36) fun x38 =>
  bndV (rExt 2 x36) fun x39 =>
  bndV (rExt 3 x36) fun x40 =>
  bndN (rAlloc [(.int .i64 (.ofNat (nat_lit 0))), (.int .i64 (.ofNat (nat_lit 0)))] []) h fun x9 h =>
  bndE (rSt h 2 x9 x38) h fun _ h =>
  bndJ (tstv x40 (bndV (rFa 0 x6) fun x42 =>
  bndV (rLd h x42) fun x43 =>
  some ⟨0, [x43], h⟩)
  (some ⟨0, [x3], h⟩))
  fun j vs h => unc1 vs fun x3 =>
  some ⟨0, [x3], h⟩
noncomputable def f92_1 (x0 : V) (x3 : V) (x21 : V) (h : HT) : Option J := bndV (rExt 0 x21) fun x22 =>
  bndV (rExt 1 x21) fun x23 =>
  bndN (rAlloc [(.int .i64 (.ofNat (nat_lit 0))), (.int .i64 (.ofNat (nat_lit 0)))] []) h fun x6 h =>
  bndE (rSt h 2 x6 x22) h fun _ h =>
  bndV (rNot x23) fun x25 =>
  bndC (gsel x25 false (retV (rFa 0 x6) h) h) fun x27 h =>
  bndC (gsel x25 false (retV (rLd h x27) h) h) fun x28 h =>
  bndC (gsel x25 false (retV (kMov [x3]) h) h) fun x29 h =>
  bndC (gsel x25 false (retV (rLeq x28 x29) h) h) fun x30 h =>
  bndV (rPick x25 (.bool true) x30) fun x31 =>
  tstv x31 (some ⟨0, [x3], h⟩)
  (bndV (rFa 0 x6) fun x34 =>
  bndV (rLd h x34) fun x35 =>
  (f92_0 x0 x3 x6 x35 h))
noncomputable def f92_2 (x0 : V) (x13 : V) (x14 : V) (h : HT) : Option J := bndJ (loopF (fun rc vs h => unc2 vs fun x3 x15 =>
  bndV (rLss x15 x14) fun x16 =>
  tstv x16 (bndJ (bndV (rIaS 1 x13 x15) fun x17 =>
  bndV (rLd h x17) fun x18 =>
  bndC (noF [x18] h) fun x21 h =>
  (f92_1 x0 x3 x21 h))
  fun j vs h => unc1 vs fun x3 =>
  bndV (rAdd x15 (.int .i64 (.ofNat (nat_lit 1)))) fun x44 =>
  rc [x3, x44] h)
  (some ⟨0, [x3], h⟩)) 1000000 [(.int .i64 (.ofNat (nat_lit 0))), (.int .i64 (.ofNat (nat_lit 0)))] h)
  fun j vs h => unc1 vs fun x3 =>
  ret1 x3 h
noncomputable def f92 (vs : List V) (h : HT) : Option J := unc1 vs fun x0 =>
  bndC (f176 [x0] h) fun x13 h =>
  bndV (rLenS x13) fun x14 =>
  (f92_2 x0 x13 x14 h)

/- concord/wal.clean -/
noncomputable def l93 : List (Nat × (List V → HT → Option J)) := [(176, f176)]
noncomputable def t93 : Fns := tab l93
noncomputable def f93_0 (x0 : V) (x3 : V) (x7 : V) (x16 : V) (x23 : V) (x29 : V) (h : HT) : Option J := bndC (gsel x23 false (retV (kMov [x29]) h) h) fun x30 h =>
  bndC (gsel x30 true (retV (rFa 1 x7) h) h) fun x31 h =>
  bndC (gsel x30 true (retV (rLd h x31) h) h) fun x32 h =>
  bndC (gsel x30 true (retV (rFa 1 x3) h) h) fun x33 h =>
  bndC (gsel x30 true (retV (rLd h x33) h) h) fun x34 h =>
  bndC (gsel x30 true (retV (rLeq x32 x34) h) h) fun x35 h =>
  bndC (gsel x23 false (retV (rPick x30 x35 (.bool false)) h) h) fun x36 h =>
  bndV (rPick x23 (.bool true) x36) fun x37 =>
  tstv x37 (some ⟨0, [], h⟩)
  (bndC (noF [x0, x16] h) fun x40 h =>
  bndV (rNeq x40 (.int .i64 (.ofNat (nat_lit 0)))) fun x42 =>
  tstv x42 (some ⟨1, [x40], h⟩)
  (some ⟨0, [], h⟩))
noncomputable def f93_1 (rc : List V → HT → Option J) (x0 : V) (x3 : V) (x11 : V) (x13 : V) (h : HT) : Option J := bndJ (bndV (rIaS 1 x11 x13) fun x15 =>
  bndV (rLd h x15) fun x16 =>
  bndC (noF [x16] h) fun x19 h =>
  bndV (rExt 0 x19) fun x20 =>
  bndV (rExt 1 x19) fun x21 =>
  bndN (rAlloc [(.int .i64 (.ofNat (nat_lit 0))), (.int .i64 (.ofNat (nat_lit 0)))] []) h fun x7 h =>
  bndE (rSt h 2 x7 x20) h fun _ h =>
  bndV (rNot x21) fun x23 =>
  bndC (gsel x23 false (retV (rFa 0 x7) h) h) fun x25 h =>
  bndC (gsel x23 false (retV (rLd h x25) h) h) fun x26 h =>
  bndC (gsel x23 false (retV (rFa 0 x3) h) h) fun x27 h =>
  bndC (gsel x23 false (retV (rLd h x27) h) h) fun x28 h =>
  bndC (gsel x23 false (retV (rEql x26 x28) h) h) fun x29 h =>
  (f93_0 x0 x3 x7 x16 x23 x29 h))
  fun j vs h => nsw j (bndV (rAdd x13 (.int .i64 (.ofNat (nat_lit 1)))) fun x44 =>
  rc [x44] h)
  fun j => unc1 vs fun x4 =>
  some ⟨1, [x4], h⟩
noncomputable def f93 (vs : List V) (h : HT) : Option J := unc2 vs fun x0 x1 =>
  bndN (rBox x1) h fun x3 h =>
  bndC (f176 [x0] h) fun x11 h =>
  bndV (rLenS x11) fun x12 =>
  bndJ (loopF (fun rc vs h => unc1 vs fun x13 =>
  bndV (rLss x13 x12) fun x14 =>
  tstv x14 ((f93_1 rc x0 x3 x11 x13 h))
  (some ⟨0, [], h⟩)) 1000000 [(.int .i64 (.ofNat (nat_lit 0)))] h)
  fun j vs h => nsw j (ret1 (.int .i64 (.ofNat (nat_lit 0))) h)
  fun j => unc1 vs fun x4 =>
  ret1 x4 h

/- concord/wal.Open -/
noncomputable def l38 : List (Nat × (List V → HT → Option J)) := [(92, f92), (93, f93)]
noncomputable def t38 : Fns := tab l38
noncomputable def f38_0 (x0 : V) (x8 : V) (x35 : V) (h : HT) : Option J := bndV (rLdN h 2 x8) fun x59 =>
  bndC (f93 [x0, x59] h) fun x60 h =>
  bndV (rNeq x60 (.int .i64 (.ofNat (nat_lit 0)))) fun x62 =>
  tstv x62 (ret1 (.tuple [(.ptr none), (.slice none 0 true 0), x60]) h)
  (bndV (rLdN h 2 x8) fun x65 =>
  bndC (noF [x65] h) fun x66 h =>
  bndC (noF [x0, x66] h) fun x67 h =>
  bndV (rNeq x67 (.int .i64 (.ofNat (nat_lit 0)))) fun x69 =>
  tstv x69 (ret1 (.tuple [(.ptr none), (.slice none 0 true 0), x67]) h)
  (bndV (rLdN h 2 x8) fun x72 =>
  bndV (rBld [(.ptr none), (.int .i64 (.ofNat (nat_lit 0))), (.int .i64 (.ofNat (nat_lit 0))), (.bool false)] [(0, 1), (1, 2)] [x0, x72]) fun x73 =>
  bndN (rBox x73) h fun x74 h =>
  ret1 (.tuple [x74, x35, (.int .i64 (.ofNat (nat_lit 0)))]) h))
noncomputable def f38_1 (x0 : V) (x8 : V) (x35 : V) (x37 : V) (x47 : V) (h : HT) : Option J := bndV (rGtr x47 x37) fun x49 =>
  bndJ (tstv x49 (bndV (rLdN h 2 x8) fun x51 =>
  bndC (noF [x51] h) fun x52 h =>
  bndC (noF [x0, x52, x37] h) fun x54 h =>
  bndV (rNeq x54 (.int .i64 (.ofNat (nat_lit 0)))) fun x56 =>
  tstv x56 (some ⟨0, [(.ptr none), (.slice none 0 true 0), x54], h⟩)
  (some ⟨1, [], h⟩))
  (some ⟨1, [], h⟩))
  fun j vs h => nsw j (unc3 vs fun x2 x3 x4 =>
  ret1 (.tuple [x2, x3, x4]) h)
  fun j => (f38_0 x0 x8 x35 h)
noncomputable def f38_2 (x0 : V) (x19 : V) (x21 : V) (h : HT) : Option J := tstv x21 (bndV (rBld [(.int .i64 (.ofNat (nat_lit 0))), (.int .i64 (.ofNat (nat_lit 0)))] [] []) fun x23 =>
  bndC (f93 [x0, x23] h) fun x24 h =>
  bndV (rNeq x24 (.int .i64 (.ofNat (nat_lit 0)))) fun x26 =>
  tstv x26 (ret1 (.tuple [(.ptr none), (.slice none 0 true 0), x24]) h)
  (bndV (rBld [(.ptr none), (.int .i64 (.ofNat (nat_lit 0))), (.int .i64 (.ofNat (nat_lit 0))), (.bool false)] [(0, 1)] [x0]) fun x29 =>
  bndN (rBox x29) h fun x30 h =>
  ret1 (.tuple [x30, (.slice none 0 true 0), (.int .i64 (.ofNat (nat_lit 0)))]) h))
  (bndC (noF [x0, x19] h) fun x34 h =>
  bndV (rExt 0 x34) fun x35 =>
  bndV (rExt 1 x34) fun x36 =>
  bndV (rExt 2 x34) fun x37 =>
  bndV (rExt 3 x34) fun x38 =>
  bndN (rAlloc [(.int .i64 (.ofNat (nat_lit 0))), (.int .i64 (.ofNat (nat_lit 0)))] []) h fun x8 h =>
  bndE (rSt h 2 x8 x36) h fun _ h =>
  bndV (rLdN h 2 x8) fun x41 =>
  bndC (noF [x41] h) fun x42 h =>
  bndC (noF [x0, x42] h) fun x43 h =>
  bndV (rExt 0 x43) fun x44 =>
  bndV (rExt 1 x43) fun x45 =>
  bndV (rLenS x44) fun x47 =>
  (f38_1 x0 x8 x35 x37 x47 h))
noncomputable def f38 (vs : List V) (h : HT) : Option J := unc1 vs fun x0 =>
  bndV (kEqN false [x0, (.ptr none)]) fun x17 =>
  tstv x17 (ret1 (.tuple [(.ptr none), (.slice none 0 true 0), (.int .i64 (.ofNat (nat_lit 1)))]) h)
  (bndC (f92 [x0] h) fun x19 h =>
  bndV (rEql x19 (.int .i64 (.ofNat (nat_lit 0)))) fun x21 =>
  (f38_2 x0 x19 x21 h))

/- concord/deps.Right -/
noncomputable def l101 : List (Nat × (List V → HT → Option J)) := []
noncomputable def t101 : Fns := tab l101
noncomputable def f101_0 (x1 : V) (x6 : V) (h : HT) : Option J := bndJ (loopF (fun rc vs h => unc1 vs fun x7 =>
  bndV (rLss x7 (.int .i64 (.ofNat (nat_lit 7)))) fun x8 =>
  tstv x8 (bndV (rIxA 7 1 x6 x7) fun x9 =>
  bndV (rLss x9 (.int .i64 (.ofNat (nat_lit 0)))) fun x11 =>
  bndC (gsel x11 false (retV (kMov [x9]) h) h) fun x13 h =>
  bndC (gsel x11 false (retV (rGtr x13 (.int .i64 (.ofNat (nat_lit 1073741824)))) h) h) fun x14 h =>
  bndV (rPick x11 (.bool true) x14) fun x15 =>
  tstv x15 (some ⟨1, [(.bool false)], h⟩)
  (bndV (rAdd x7 (.int .i64 (.ofNat (nat_lit 1)))) fun x16 =>
  rc [x16] h))
  (some ⟨0, [], h⟩)) 1000000 [(.int .i64 (.ofNat (nat_lit 0)))] h)
  fun j vs h => nsw j (bndV (rFa 0 x1) fun x17 =>
  bndV (rLd h x17) fun x18 =>
  bndV (rGeq x18 (.int .i64 (.ofNat (nat_lit 0)))) fun x19 =>
  bndC (gsel x19 true (retV (rFa 0 x1) h) h) fun x21 h =>
  bndC (gsel x19 true (retV (rLd h x21) h) h) fun x22 h =>
  bndC (gsel x19 true (retV (rLeq x22 (.int .i64 (.ofNat (nat_lit 1099511627776)))) h) h) fun x23 h =>
  bndV (rPick x19 x23 (.bool false)) fun x24 =>
  ret1 x24 h)
  fun j => unc1 vs fun x2 =>
  ret1 x2 h
noncomputable def f101 (vs : List V) (h : HT) : Option J := unc1 vs fun x0 =>
  bndN (rBox x0) h fun x1 h =>
  bndV (rFa 1 x1) fun x5 =>
  bndV (rLdN h 7 x5) fun x6 =>
  (f101_0 x1 x6 h)

/- (*concord/log.Log).Trim -/
noncomputable def l182 : List (Nat × (List V → HT → Option J)) := []
noncomputable def t182 : Fns := tab l182
noncomputable def f182_0 (rc : List V → HT → Option J) (x0 : V) (x7 : V) (x8 : V) (x9 : V) (h : HT) : Option J := tstv x9 (bndV (rIxA 7 1 x7 x8) fun x11 =>
  bndV (rNilc x0) fun x16 =>
  bndV (rFa 1 x16) fun x17 =>
  bndV (rIaA 7 1 x17 x8) fun x18 =>
  bndV (rLd h x18) fun x19 =>
  bndV (rMax x11 (.int .i64 (.ofNat (nat_lit 0)))) fun x21 =>
  bndV (rMin x21 (.int .i64 (.ofNat (nat_lit 1073741824)))) fun x22 =>
  bndV (rMax x19 x22) fun x23 =>
  bndV (rNilc x0) fun x24 =>
  bndV (rFa 1 x24) fun x25 =>
  bndV (rIaA 7 1 x25 x8) fun x26 =>
  bndE (rSt h 1 x26 x23) h fun _ h =>
  bndV (rAdd x8 (.int .i64 (.ofNat (nat_lit 1)))) fun x27 =>
  rc [x27] h)
  (some ⟨0, [], h⟩)
noncomputable def f182_1 (rc : List V → HT → Option J) (x0 : V) (x32 : V) (x34 : V) (h : HT) : Option J := tstv x34 (bndV (kEnt h.heap [x32]) fun x35 =>
  bndV (rExt 0 x35) fun x36 =>
  bndN (rAlloc [(.int .i64 (.ofNat (nat_lit 0))), (.int .i64 (.ofNat (nat_lit 0)))] []) h fun x6 h =>
  bndE (rSt h 2 x6 x36) h fun _ h =>
  bndV (rLdN h 2 x6) fun x38 =>
  bndC (noF [x0, x38] h) fun x39 h =>
  tstv x39 (bndV (rNilc x0) fun x41 =>
  bndV (rFa 0 x41) fun x42 =>
  bndV (rLd h x42) fun x43 =>
  bndV (rLdN h 2 x6) fun x44 =>
  bndE (dDel h true [.i, .i] [x43, x44]) h fun _ h =>
  rc [] h)
  (rc [] h))
  (some ⟨0, [], h⟩)
noncomputable def f182_2 (x0 : V) (x7 : V) (h : HT) : Option J := bndJ (loopF (fun rc vs h => unc1 vs fun x8 =>
  bndV (rLss x8 (.int .i64 (.ofNat (nat_lit 7)))) fun x9 =>
  (f182_0 rc x0 x7 x8 x9 h)) 1000000 [(.int .i64 (.ofNat (nat_lit 0)))] h)
  fun j vs h => bndV (rNilc x0) fun x29 =>
  bndV (rFa 0 x29) fun x30 =>
  bndV (rLd h x30) fun x31 =>
  bndN (kRng h.heap [x31]) h fun x32 h =>
  bndJ (loopF (fun rc vs h => bndE (dNx h [x32]) h fun x33 h =>
  bndV (rExt 0 x33) fun x34 =>
  (f182_1 rc x0 x32 x34 h)) 1000000 [] h)
  fun j vs h => ret1 (.tuple []) h
noncomputable def f182 (vs : List V) (h : HT) : Option J := unc2 vs fun x0 x1 =>
  bndN (rBox x1) h fun x3 h =>
  bndV (rLdN h 7 x3) fun x7 =>
  (f182_2 x0 x7 h)

/- concord/log.New -/
noncomputable def l102 : List (Nat × (List V → HT → Option J)) := [(182, f182)]
noncomputable def t102 : Fns := tab l102

noncomputable def f102 (vs : List V) (h : HT) : Option J := unc1 vs fun x0 =>
  bndN (rBox x0) h fun x1 h =>
  bndN (kMkM []) h fun x4 h =>
  bndV (rBld [(.map none), (.int .i64 (.ofNat (nat_lit 0))), (.int .i64 (.ofNat (nat_lit 0))), (.int .i64 (.ofNat (nat_lit 0))), (.int .i64 (.ofNat (nat_lit 0))), (.int .i64 (.ofNat (nat_lit 0))), (.int .i64 (.ofNat (nat_lit 0))), (.int .i64 (.ofNat (nat_lit 0)))] [(0, 1)] [x4]) fun x5 =>
  bndN (rBox x5) h fun x6 h =>
  bndV (rLdN h 7 x1) fun x8 =>
  bndC (f182 [x6, x8] h) fun x9 h =>
  ret1 x6 h

/- concord/interf.New -/
noncomputable def l103 : List (Nat × (List V → HT → Option J)) := []
noncomputable def t103 : Fns := tab l103

noncomputable def f103 (vs : List V) (h : HT) : Option J := bndN (kMkM []) h fun x1 h =>
  bndV (rBld [(.map none), (.int .i64 (.ofNat (nat_lit 0))), (.int .i64 (.ofNat (nat_lit 0))), (.int .i64 (.ofNat (nat_lit 0))), (.int .i64 (.ofNat (nat_lit 0))), (.int .i64 (.ofNat (nat_lit 0))), (.int .i64 (.ofNat (nat_lit 0))), (.int .i64 (.ofNat (nat_lit 0)))] [(0, 1)] [x1]) fun x2 =>
  bndN (rBox x2) h fun x3 h =>
  ret1 x3 h

/- (*concord/interf.Index).Prune -/
noncomputable def l104 : List (Nat × (List V → HT → Option J)) := []
noncomputable def t104 : Fns := tab l104
noncomputable def f104_0 (rc : List V → HT → Option J) (x0 : V) (x7 : V) (x8 : V) (x9 : V) (h : HT) : Option J := tstv x9 (bndV (rIxA 7 1 x7 x8) fun x11 =>
  bndV (rNilc x0) fun x16 =>
  bndV (rFa 1 x16) fun x17 =>
  bndV (rIaA 7 1 x17 x8) fun x18 =>
  bndV (rLd h x18) fun x19 =>
  bndV (rMax x11 (.int .i64 (.ofNat (nat_lit 0)))) fun x21 =>
  bndV (rMin x21 (.int .i64 (.ofNat (nat_lit 1073741824)))) fun x22 =>
  bndV (rMax x19 x22) fun x23 =>
  bndV (rNilc x0) fun x24 =>
  bndV (rFa 1 x24) fun x25 =>
  bndV (rIaA 7 1 x25 x8) fun x26 =>
  bndE (rSt h 1 x26 x23) h fun _ h =>
  bndV (rAdd x8 (.int .i64 (.ofNat (nat_lit 1)))) fun x27 =>
  rc [x27] h)
  (some ⟨0, [], h⟩)
noncomputable def f104_1 (rc : List V → HT → Option J) (x0 : V) (x6 : V) (x38 : V) (h : HT) : Option J := bndV (rFa 0 x6) fun x40 =>
  bndV (rLd h x40) fun x41 =>
  bndV (rNilc x0) fun x42 =>
  bndV (rFa 1 x42) fun x43 =>
  bndV (rIaA 7 1 x43 x41) fun x44 =>
  bndV (rLd h x44) fun x45 =>
  bndV (rLeq x38 x45) fun x46 =>
  tstv x46 (bndV (rNilc x0) fun x48 =>
  bndV (rFa 0 x48) fun x49 =>
  bndV (rLd h x49) fun x50 =>
  bndV (rLdN h 2 x6) fun x51 =>
  bndE (dDel h true [.i, .i] [x50, x51]) h fun _ h =>
  rc [] h)
  (rc [] h)
noncomputable def f104_2 (x0 : V) (x31 : V) (h : HT) : Option J := bndN (kRng h.heap [x31]) h fun x32 h =>
  bndJ (loopF (fun rc vs h => bndE (dNx h [x32]) h fun x33 h =>
  bndV (rExt 0 x33) fun x34 =>
  tstv x34 (bndV (kEnt h.heap [x32]) fun x35 =>
  bndV (rExt 0 x35) fun x36 =>
  bndN (rAlloc [(.int .i64 (.ofNat (nat_lit 0))), (.int .i64 (.ofNat (nat_lit 0)))] []) h fun x6 h =>
  bndE (rSt h 2 x6 x36) h fun _ h =>
  bndV (rFa 1 x6) fun x37 =>
  bndV (rLd h x37) fun x38 =>
  (f104_1 rc x0 x6 x38 h))
  (some ⟨0, [], h⟩)) 1000000 [] h)
  fun j vs h => ret1 (.tuple []) h
noncomputable def f104 (vs : List V) (h : HT) : Option J := unc2 vs fun x0 x1 =>
  bndN (rBox x1) h fun x3 h =>
  bndV (rLdN h 7 x3) fun x7 =>
  bndJ (loopF (fun rc vs h => unc1 vs fun x8 =>
  bndV (rLss x8 (.int .i64 (.ofNat (nat_lit 7)))) fun x9 =>
  (f104_0 rc x0 x7 x8 x9 h)) 1000000 [(.int .i64 (.ofNat (nat_lit 0)))] h)
  fun j vs h => bndV (rNilc x0) fun x29 =>
  bndV (rFa 0 x29) fun x30 =>
  bndV (rLd h x30) fun x31 =>
  (f104_2 x0 x31 h)

/- concord/core.New -/
noncomputable def l40 : List (Nat × (List V → HT → Option J)) := [(35, f35), (101, f101), (102, f102), (103, f103), (104, f104)]
noncomputable def t40 : Fns := tab l40
noncomputable def f40_0 (rc : List V → HT → Option J) (x13 : V) (x14 : V) (x40 : V) (x49 : V) (x60 : V) (x63 : V) (h : HT) : Option J := bndC (gsel x60 true (retV (rFa 2 x63) h) h) fun x64 h =>
  bndC (gsel x60 true (retV (rLd h x64) h) h) fun x65 h =>
  bndC (gsel x60 true (retV (rLdN h 2 x13) h) h) fun x66 h =>
  bndC (gsel x60 true (retV (rLdN h 21 x14) h) h) fun x67 h =>
  bndC (gsel x60 true (noF [x65, x66, x67] h) h) fun x68 h =>
  bndV (rPick x60 x68 (.bool false)) fun x69 =>
  bndJ (tstv x69 (bndV (rLdN h 2 x13) fun x71 =>
  bndV (rLdN h 21 x14) fun x72 =>
  bndC (noF [x40, x71, x72] h) fun x73 h =>
  some ⟨0, [], h⟩)
  (some ⟨0, [], h⟩))
  fun j vs h => bndV (rAdd x49 (.int .i64 (.ofNat (nat_lit 1)))) fun x74 =>
  rc [x74] h
noncomputable def f40_1 (rc : List V → HT → Option J) (x3 : V) (x40 : V) (x49 : V) (x50 : V) (h : HT) : Option J := tstv x50 (bndV (rIaS 1 x3 x49) fun x51 =>
  bndV (rLd h x51) fun x52 =>
  bndC (noF [x52] h) fun x55 h =>
  bndV (rExt 0 x55) fun x56 =>
  bndV (rExt 1 x55) fun x57 =>
  bndV (rExt 2 x55) fun x58 =>
  bndN (rAlloc [(.int .i64 (.ofNat (nat_lit 0))), (.int .i64 (.ofNat (nat_lit 0)))] []) h fun x13 h =>
  bndN (rAlloc [(.int .i64 (.ofNat (nat_lit 0))), (.int .i64 (.ofNat (nat_lit 0))), (.int .i64 (.ofNat (nat_lit 0))), (.int .i64 (.ofNat (nat_lit 0))), (.int .i64 (.ofNat (nat_lit 0))), (.int .i64 (.ofNat (nat_lit 0))), (.int .i64 (.ofNat (nat_lit 0))), (.int .i64 (.ofNat (nat_lit 0))), (.str (sb [])), (.str (sb [])), (.str (sb [])), (.str (sb [])), (.int .i64 (.ofNat (nat_lit 0))), (.int .i64 (.ofNat (nat_lit 0))), (.int .i64 (.ofNat (nat_lit 0))), (.int .i64 (.ofNat (nat_lit 0))), (.int .i64 (.ofNat (nat_lit 0))), (.int .i64 (.ofNat (nat_lit 0))), (.int .i64 (.ofNat (nat_lit 0))), (.int .i64 (.ofNat (nat_lit 0))), (.bool false)] []) h fun x14 h =>
  bndE (rSt h 2 x13 x56) h fun _ h =>
  bndE (rSt h 21 x14 x57) h fun _ h =>
  bndV (rEql x58 (.int .i64 (.ofNat (nat_lit 0)))) fun x60 =>
  bndC (gsel x60 true (retV (kMov [x40]) h) h) fun x62 h =>
  bndC (gsel x60 true (retV (rNilc x62) h) h) fun x63 h =>
  (f40_0 rc x13 x14 x40 x49 x60 x63 h))
  (some ⟨0, [], h⟩)
noncomputable def f40_2 (x0 : V) (x1 : V) (x3 : V) (x6 : V) (x37 : V) (h : HT) : Option J := bndC (f103 [] h) fun x38 h =>
  bndV (rBld [(.int .i64 (.ofNat (nat_lit 0))), (.int .i64 (.ofNat (nat_lit 0))), (.ptr none), (.ptr none), (.slice none 0 true 0), (.slice none 0 true 0), (.slice none 0 true 0), (.slice none 0 true 0)] [(0, 1), (1, 1), (2, 1), (3, 1)] [x0, x1, x37, x38]) fun x39 =>
  bndN (rBox x39) h fun x40 h =>
  bndV (rNilc x40) fun x42 =>
  bndV (rFa 3 x42) fun x43 =>
  bndV (rLd h x43) fun x44 =>
  bndV (rLdN h 7 x6) fun x45 =>
  bndC (f104 [x44, x45] h) fun x46 h =>
  bndV (rLenS x3) fun x48 =>
  bndJ (loopF (fun rc vs h => unc1 vs fun x49 =>
  bndV (rLss x49 x48) fun x50 =>
  (f40_1 rc x3 x40 x49 x50 h)) 1000000 [(.int .i64 (.ofNat (nat_lit 0)))] h)
  fun j vs h => ret1 (.tuple [x40, (.int .i64 (.ofNat (nat_lit 0)))]) h
noncomputable def f40_3 (x0 : V) (x1 : V) (x3 : V) (x6 : V) (x18 : V) (x21 : V) (h : HT) : Option J := bndV (rPick x18 (.bool true) x21) fun x22 =>
  bndC (gsel x22 false (retV (kMov [x1]) h) h) fun x24 h =>
  bndC (gsel x22 false (retV (kMov [x0]) h) h) fun x25 h =>
  bndC (gsel x22 false (retV (rGeq x24 x25) h) h) fun x26 h =>
  bndV (rPick x22 (.bool true) x26) fun x27 =>
  bndC (gsel x27 false (retV (rLdN h 7 x6) h) h) fun x29 h =>
  bndC (gsel x27 false (retV (rBld [(.int .i64 (.ofNat (nat_lit 0))), (.int .i64 (.ofNat (nat_lit 0))), (.int .i64 (.ofNat (nat_lit 0))), (.int .i64 (.ofNat (nat_lit 0))), (.int .i64 (.ofNat (nat_lit 0))), (.int .i64 (.ofNat (nat_lit 0))), (.int .i64 (.ofNat (nat_lit 0))), (.int .i64 (.ofNat (nat_lit 0)))] [(1, 7)] [x29]) h) h) fun x30 h =>
  bndC (gsel x27 false (f101 [x30] h) h) fun x31 h =>
  bndC (gsel x27 false (retV (rNot x31) h) h) fun x32 h =>
  bndV (rPick x27 (.bool true) x32) fun x33 =>
  tstv x33 (ret1 (.tuple [(.ptr none), (.int .i64 (.ofNat (nat_lit 1)))]) h)
  (bndV (rLdN h 7 x6) fun x36 =>
  bndC (f102 [x36] h) fun x37 h =>
  (f40_2 x0 x1 x3 x6 x37 h))
noncomputable def f40 (vs : List V) (h : HT) : Option J := unc4 vs fun x0 x1 x2 x3 vs =>
  bndN (rBox x2) h fun x6 h =>
  bndC (f35 [x0] h) fun x17 h =>
  bndV (rNot x17) fun x18 =>
  bndC (gsel x18 false (retV (kMov [x1]) h) h) fun x20 h =>
  bndC (gsel x18 false (retV (rLss x20 (.int .i64 (.ofNat (nat_lit 0)))) h) h) fun x21 h =>
  (f40_3 x0 x1 x3 x6 x18 x21 h)

/- (*concord/wal.Wal).Where -/
noncomputable def l41 : List (Nat × (List V → HT → Option J)) := []
noncomputable def t41 : Fns := tab l41

noncomputable def f41 (vs : List V) (h : HT) : Option J := unc1 vs fun x0 =>
  bndV (rNilc x0) fun x5 =>
  bndV (rFa 1 x5) fun x6 =>
  bndV (rFa 0 x6) fun x7 =>
  bndV (rLd h x7) fun x8 =>
  bndV (rNilc x0) fun x10 =>
  bndV (rFa 1 x10) fun x11 =>
  bndV (rFa 1 x11) fun x12 =>
  bndV (rLd h x12) fun x13 =>
  ret1 (.tuple [x8, x13]) h

/- concord/sum.On -/
noncomputable def l240 : List (Nat × (List V → HT → Option J)) := []
noncomputable def t240 : Fns := tab l240
noncomputable def f240_0 (rc : List V → HT → Option J) (vs : List V) (h : HT) : Option J := unc2 vs fun x0_2 x20 =>
  bndV (rLss x20 (.int .i64 (.ofNat (nat_lit 8)))) fun x21 =>
  tstv x21 (bndV (rAnd x0_2 (.int .u32 (.ofNat (nat_lit 1)))) fun x23 =>
  bndV (rShr x0_2 (.int .u64 (.ofNat (nat_lit 1)))) fun x25 =>
  bndV (rEql x23 (.int .u32 (.ofNat (nat_lit 1)))) fun x27 =>
  bndJ (tstv x27 (bndV (rXor x25 (.int .u32 (.ofNat (nat_lit 3988292384)))) fun x29 =>
  some ⟨0, [x29], h⟩)
  (some ⟨0, [x25], h⟩))
  fun j vs h => unc1 vs fun x0_3 =>
  bndV (rAdd x20 (.int .i64 (.ofNat (nat_lit 1)))) fun x30 =>
  rc [x0_3, x30] h)
  (some ⟨0, [x0_2], h⟩)
noncomputable def f240_1 (x1 : V) (x9 : V) (x11 : V) (h : HT) : Option J := loopF (fun rc vs h => unc2 vs fun x0_1 x12 =>
  bndV (rLss x12 x11) fun x13 =>
  tstv x13 (bndV (rIaS 1 x1 x12) fun x14 =>
  bndV (rLd h x14) fun x15 =>
  bndV (rCvI .u32 x15) fun x18 =>
  bndV (rXor x0_1 x18) fun x19 =>
  bndJ (loopF (fun rc vs h => (f240_0 rc vs h)) 1000000 [x19, (.int .i64 (.ofNat (nat_lit 0)))] h)
  fun j vs h => unc1 vs fun x0_2 =>
  bndV (rAdd x12 (.int .i64 (.ofNat (nat_lit 1)))) fun x31 =>
  rc [x0_2, x31] h)
  (some ⟨0, [x0_1], h⟩)) 1000000 [x9, (.int .i64 (.ofNat (nat_lit 0)))] h
noncomputable def f240 (vs : List V) (h : HT) : Option J := unc2 vs fun x0 x1 =>
  bndV (kUn .xor [x0]) fun x9 =>
  bndV (rLenS x1) fun x11 =>
  bndJ ((f240_1 x1 x9 x11 h))
  fun j vs h => unc1 vs fun x0_1 =>
  bndV (kUn .xor [x0_1]) fun x33 =>
  ret1 x33 h

/- concord/sum.Of -/
noncomputable def l168 : List (Nat × (List V → HT → Option J)) := [(240, f240)]
noncomputable def t168 : Fns := tab l168

noncomputable def f168 (vs : List V) (h : HT) : Option J := unc1 vs fun x0 =>
  bndC (f240 [(.int .u32 (.ofNat (nat_lit 0))), x0] h) fun x4 h =>
  ret1 x4 h

/- concord/word.Put -/
noncomputable def l186 : List (Nat × (List V → HT → Option J)) := []
noncomputable def t186 : Fns := tab l186
noncomputable def f186_0 (x2 : V) (x13 : V) (x15 : V) (h : HT) : Option J := bndV (rMin x15 (.int .i64 (.ofNat (nat_lit 8)))) fun x16 =>
  bndJ (loopF (fun rc vs h => unc3 vs fun x2 x7 x17 =>
  bndV (rLss x17 x16) fun x18 =>
  tstv x18 (bndV (rCvI .u8 x2) fun x21 =>
  bndN (rBsl 1 1 [(.int .u8 (.ofNat (nat_lit 0)))] [(0, 1)] [x21]) h fun x22 h =>
  bndE (dApp h 1 1 [x7, x22]) h fun x23 h =>
  bndV (rShr x2 (.int .u64 (.ofNat (nat_lit 8)))) fun x25 =>
  bndV (rAdd x17 (.int .i64 (.ofNat (nat_lit 1)))) fun x26 =>
  rc [x25, x23, x26] h)
  (some ⟨0, [x7], h⟩)) 1000000 [x2, x13, (.int .i64 (.ofNat (nat_lit 0)))] h)
  fun j vs h => unc1 vs fun x7 =>
  ret1 x7 h
noncomputable def f186 (vs : List V) (h : HT) : Option J := unc3 vs fun x0 x1 x2 =>
  bndV (rLenS x0) fun x9 =>
  bndV (rAdd x9 (.int .i64 (.ofNat (nat_lit 8)))) fun x10 =>
  bndN (kMkS 1 1 [(.int .u8 (.ofNat (nat_lit 0)))] [(.int .i64 (.ofNat (nat_lit 0))), x10]) h fun x11 h =>
  bndE (dApp h 1 1 [x11, x0]) h fun x13 h =>
  bndV (rMax x1 (.int .i64 (.ofNat (nat_lit 0)))) fun x15 =>
  (f186_0 x2 x13 x15 h)

/- concord/frame.Put -/
noncomputable def l109 : List (Nat × (List V → HT → Option J)) := [(168, f168), (186, f186)]
noncomputable def t109 : Fns := tab l109
noncomputable def f109_0 (x1 : V) (x16 : V) (x19 : V) (x21 : V) (h : HT) : Option J := bndC (gsel x19 false (retV (rLenS x21) h) h) fun x22 h =>
  bndC (gsel x19 false (retV (rGtr x22 (.int .i64 (.ofNat (nat_lit 16384)))) h) h) fun x23 h =>
  bndV (rPick x19 (.bool true) x23) fun x24 =>
  tstv x24 (ret1 x16 h)
  (bndV (rLenS x1) fun x27 =>
  bndV (rCvI .u64 x27) fun x28 =>
  bndC (f186 [(.slice none 0 true 0), (.int .i64 (.ofNat (nat_lit 2))), x28] h) fun x29 h =>
  bndE (dApp h 1 1 [x29, x1]) h fun x31 h =>
  bndE (dApp h 1 1 [x16, x31]) h fun x34 h =>
  bndC (f168 [x31] h) fun x36 h =>
  bndV (rCvI .u64 x36) fun x37 =>
  bndC (f186 [(.slice none 0 true 0), (.int .i64 (.ofNat (nat_lit 4))), x37] h) fun x38 h =>
  bndE (dApp h 1 1 [x34, x38]) h fun x39 h =>
  ret1 x39 h)
noncomputable def f109 (vs : List V) (h : HT) : Option J := unc2 vs fun x0 x1 =>
  bndV (rLenS x0) fun x8 =>
  bndV (rAdd x8 (.int .i64 (.ofNat (nat_lit 2)))) fun x9 =>
  bndV (rLenS x1) fun x11 =>
  bndV (rAdd x9 x11) fun x12 =>
  bndV (rAdd x12 (.int .i64 (.ofNat (nat_lit 4)))) fun x13 =>
  bndN (kMkS 1 1 [(.int .u8 (.ofNat (nat_lit 0)))] [(.int .i64 (.ofNat (nat_lit 0))), x13]) h fun x14 h =>
  bndE (dApp h 1 1 [x14, x0]) h fun x16 h =>
  bndV (rLenS x1) fun x18 =>
  bndV (rEql x18 (.int .i64 (.ofNat (nat_lit 0)))) fun x19 =>
  bndC (gsel x19 false (retV (kMov [x1]) h) h) fun x21 h =>
  (f109_0 x1 x16 x19 x21 h)

/- concord/wal.frames -/
noncomputable def l108 : List (Nat × (List V → HT → Option J)) := [(109, f109)]
noncomputable def t108 : Fns := tab l108
noncomputable def f108_0 (rc : List V → HT → Option J) (x0 : V) (x1 : V) (x10 : V) (x11 : V) (h : HT) : Option J := tstv x11 (bndV (rIaS 1 x1 x10) fun x12 =>
  bndV (rLd h x12) fun x13 =>
  bndV (rLenS x13) fun x15 =>
  bndV (rEql x15 (.int .i64 (.ofNat (nat_lit 0)))) fun x16 =>
  bndC (gsel x16 false (retV (kMov [x13]) h) h) fun x18 h =>
  bndC (gsel x16 false (retV (rLenS x18) h) h) fun x19 h =>
  bndC (gsel x16 false (retV (rGtr x19 (.int .i64 (.ofNat (nat_lit 16384)))) h) h) fun x20 h =>
  bndV (rPick x16 (.bool true) x20) fun x21 =>
  tstv x21 (some ⟨1, [(.slice none 0 true 0), (.bool false)], h⟩)
  (bndC (f109 [x0, x13] h) fun x24 h =>
  bndV (rAdd x10 (.int .i64 (.ofNat (nat_lit 1)))) fun x25 =>
  rc [x24, x25] h))
  (some ⟨0, [x0], h⟩)
noncomputable def f108 (vs : List V) (h : HT) : Option J := unc2 vs fun x0 x1 =>
  bndV (rLenS x1) fun x9 =>
  bndJ (loopF (fun rc vs h => unc2 vs fun x0 x10 =>
  bndV (rLss x10 x9) fun x11 =>
  (f108_0 rc x0 x1 x10 x11 h)) 1000000 [x0, (.int .i64 (.ofNat (nat_lit 0)))] h)
  fun j vs h => nsw j (unc1 vs fun x0 =>
  ret1 (.tuple [x0, (.bool true)]) h)
  fun j => unc2 vs fun x4 x5 =>
  ret1 (.tuple [x4, x5]) h

/- concord/pack.grown -/
noncomputable def l179 : List (Nat × (List V → HT → Option J)) := []
noncomputable def t179 : Fns := tab l179

noncomputable def f179 (vs : List V) (h : HT) : Option J := unc2 vs fun x0 x1 =>
  bndV (rLenS x0) fun x6 =>
  bndV (rAdd x6 x1) fun x8 =>
  bndN (kMkS 1 1 [(.int .u8 (.ofNat (nat_lit 0)))] [(.int .i64 (.ofNat (nat_lit 0))), x8]) h fun x9 h =>
  bndE (dApp h 1 1 [x9, x0]) h fun x11 h =>
  ret1 x11 h

/- concord/word.Zig -/
noncomputable def l250 : List (Nat × (List V → HT → Option J)) := []
noncomputable def t250 : Fns := tab l250

noncomputable def f250 (vs : List V) (h : HT) : Option J := unc1 vs fun x0 =>
  bndV (rCvI .u64 x0) fun x4 =>
  bndV (qBin .shl [x4, (.int .u64 (.ofNat (nat_lit 1)))]) fun x5 =>
  bndV (rShr x0 (.int .u64 (.ofNat (nat_lit 63)))) fun x7 =>
  bndV (rCvI .u64 x7) fun x8 =>
  bndV (rXor x5 x8) fun x9 =>
  ret1 x9 h

/- concord/pack.num -/
noncomputable def l187 : List (Nat × (List V → HT → Option J)) := [(250, f250)]
noncomputable def t187 : Fns := tab l187
noncomputable def f187_0 (x0 : V) (x7 : V) (h : HT) : Option J := bndJ (loopF (fun rc vs h => unc2 vs fun x0 x5 =>
  bndV (rGeq x5 (.int .u64 (.ofNat (nat_lit 128)))) fun x9 =>
  tstv x9 (bndV (rCvI .u8 x5) fun x12 =>
  bndV (rOr x12 (.int .u8 (.ofNat (nat_lit 128)))) fun x13 =>
  bndN (rBsl 1 1 [(.int .u8 (.ofNat (nat_lit 0)))] [(0, 1)] [x13]) h fun x14 h =>
  bndE (dApp h 1 1 [x0, x14]) h fun x15 h =>
  bndV (rShr x5 (.int .u64 (.ofNat (nat_lit 7)))) fun x17 =>
  rc [x15, x17] h)
  (some ⟨0, [x0, x5], h⟩)) 1000000 [x0, x7] h)
  fun j vs h => unc2 vs fun x0 x5 =>
  bndV (rCvI .u8 x5) fun x20 =>
  bndN (rBsl 1 1 [(.int .u8 (.ofNat (nat_lit 0)))] [(0, 1)] [x20]) h fun x21 h =>
  bndE (dApp h 1 1 [x0, x21]) h fun x22 h =>
  ret1 x22 h
noncomputable def f187 (vs : List V) (h : HT) : Option J := unc2 vs fun x0 x1 =>
  bndC (f250 [x1] h) fun x7 h =>
  (f187_0 x0 x7 h)

/- concord/pack.Num -/
noncomputable def l110 : List (Nat × (List V → HT → Option J)) := [(179, f179), (187, f187)]
noncomputable def t110 : Fns := tab l110

noncomputable def f110 (vs : List V) (h : HT) : Option J := unc2 vs fun x0 x1 =>
  bndC (f179 [x0, (.int .i64 (.ofNat (nat_lit 10)))] h) fun x6 h =>
  bndC (f187 [x6, x1] h) fun x8 h =>
  ret1 x8 h

/- internal/strconv.small -/
noncomputable def l287 : List (Nat × (List V → HT → Option J)) := []
noncomputable def t287 : Fns := tab l287

noncomputable def f287 (vs : List V) (h : HT) : Option J := unc1 vs fun x0 =>
  bndV (rLss x0 (.int .i64 (.ofNat (nat_lit 10)))) fun x4 =>
  tstv x4 (bndV (rAdd x0 (.int .i64 (.ofNat (nat_lit 1)))) fun x7 =>
  bndV (kSlStr true true [(.str (sb [48, 49, 50, 51, 52, 53, 54, 55, 56, 57, 97, 98, 99, 100, 101, 102, 103, 104, 105, 106, 107, 108, 109, 110, 111, 112, 113, 114, 115, 116, 117, 118, 119, 120, 121, 122])), x0, x7]) fun x8 =>
  ret1 x8 h)
  (bndV (qBin .mul [x0, (.int .i64 (.ofNat (nat_lit 2)))]) fun x10 =>
  bndV (qBin .mul [x0, (.int .i64 (.ofNat (nat_lit 2)))]) fun x12 =>
  bndV (rAdd x12 (.int .i64 (.ofNat (nat_lit 2)))) fun x13 =>
  bndV (kSlStr true true [(.str (sb [48, 48, 48, 49, 48, 50, 48, 51, 48, 52, 48, 53, 48, 54, 48, 55, 48, 56, 48, 57, 49, 48, 49, 49, 49, 50, 49, 51, 49, 52, 49, 53, 49, 54, 49, 55, 49, 56, 49, 57, 50, 48, 50, 49, 50, 50, 50, 51, 50, 52, 50, 53, 50, 54, 50, 55, 50, 56, 50, 57, 51, 48, 51, 49, 51, 50, 51, 51, 51, 52, 51, 53, 51, 54, 51, 55, 51, 56, 51, 57, 52, 48, 52, 49, 52, 50, 52, 51, 52, 52, 52, 53, 52, 54, 52, 55, 52, 56, 52, 57, 53, 48, 53, 49, 53, 50, 53, 51, 53, 52, 53, 53, 53, 54, 53, 55, 53, 56, 53, 57, 54, 48, 54, 49, 54, 50, 54, 51, 54, 52, 54, 53, 54, 54, 54, 55, 54, 56, 54, 57, 55, 48, 55, 49, 55, 50, 55, 51, 55, 52, 55, 53, 55, 54, 55, 55, 55, 56, 55, 57, 56, 48, 56, 49, 56, 50, 56, 51, 56, 52, 56, 53, 56, 54, 56, 55, 56, 56, 56, 57, 57, 48, 57, 49, 57, 50, 57, 51, 57, 52, 57, 53, 57, 54, 57, 55, 57, 56, 57, 57])), x10, x13]) fun x14 =>
  ret1 x14 h)

/- internal/strconv.FormatInt -/
noncomputable def l231 : List (Nat × (List V → HT → Option J)) := [(287, f287)]
noncomputable def t231 : Fns := tab l231
noncomputable def f231_0 (x0 : V) (x17 : V) (h : HT) : Option J := tstv x17 (bndC (f287 [x0] h) fun x19 h =>
  ret1 x19 h)
  (bndN (rAlloc [(.int .u8 (.ofNat (nat_lit 0))), (.int .u8 (.ofNat (nat_lit 0))), (.int .u8 (.ofNat (nat_lit 0))), (.int .u8 (.ofNat (nat_lit 0))), (.int .u8 (.ofNat (nat_lit 0))), (.int .u8 (.ofNat (nat_lit 0))), (.int .u8 (.ofNat (nat_lit 0))), (.int .u8 (.ofNat (nat_lit 0))), (.int .u8 (.ofNat (nat_lit 0))), (.int .u8 (.ofNat (nat_lit 0))), (.int .u8 (.ofNat (nat_lit 0))), (.int .u8 (.ofNat (nat_lit 0))), (.int .u8 (.ofNat (nat_lit 0))), (.int .u8 (.ofNat (nat_lit 0))), (.int .u8 (.ofNat (nat_lit 0))), (.int .u8 (.ofNat (nat_lit 0))), (.int .u8 (.ofNat (nat_lit 0))), (.int .u8 (.ofNat (nat_lit 0))), (.int .u8 (.ofNat (nat_lit 0))), (.int .u8 (.ofNat (nat_lit 0))), (.int .u8 (.ofNat (nat_lit 0))), (.int .u8 (.ofNat (nat_lit 0))), (.int .u8 (.ofNat (nat_lit 0))), (.int .u8 (.ofNat (nat_lit 0)))] []) h fun x5 h =>
  bndV (rCvI .u64 x0) fun x21 =>
  bndV (rLss x0 (.int .i64 (.ofNat (nat_lit 0)))) fun x23 =>
  bndJ (tstv x23 (bndV (kUn .neg [x21]) fun x25 =>
  some ⟨0, [x25], h⟩)
  (some ⟨0, [x21], h⟩))
  fun j vs h => unc1 vs fun x6 =>
  bndC (noF [x6] h) fun x27 h =>
  bndV (rAdd (.int .i64 (.ofNat (nat_lit 1))) x27) fun x29 =>
  none)
noncomputable def f231 (vs : List V) (h : HT) : Option J := unc2 vs fun x0 x1 =>
  bndV (rEql x1 (.int .i64 (.ofNat (nat_lit 10)))) fun x11 =>
  tstv x11 (bndV (rLeq (.int .i64 (.ofNat (nat_lit 0))) x0) fun x13 =>
  bndC (gsel x13 true (retV (kMov [x0]) h) h) fun x15 h =>
  bndC (gsel x13 true (retV (rLss x15 (.int .i64 (.ofNat (nat_lit 100)))) h) h) fun x16 h =>
  bndV (rPick x13 x16 (.bool false)) fun x17 =>
  (f231_0 x0 x17 h))
  (bndV (rCvI .u64 x0) fun x46 =>
  bndV (rLss x0 (.int .i64 (.ofNat (nat_lit 0)))) fun x49 =>
  bndC (noF [(.slice none 0 true 0), x46, x1, x49, (.bool false)] h) fun x50 h =>
  bndV (rExt 0 x50) fun x51 =>
  bndV (rExt 1 x50) fun x52 =>
  ret1 x52 h)

/- internal/strconv.Itoa -/
noncomputable def l158 : List (Nat × (List V → HT → Option J)) := [(231, f231)]
noncomputable def t158 : Fns := tab l158

noncomputable def f158 (vs : List V) (h : HT) : Option J := unc1 vs fun x0 =>
  bndC (f231 [x0, (.int .i64 (.ofNat (nat_lit 10)))] h) fun x4 h =>
  ret1 x4 h

/- strconv.Itoa -/
noncomputable def l79 : List (Nat × (List V → HT → Option J)) := [(158, f158)]
noncomputable def t79 : Fns := tab l79

noncomputable def f79 (vs : List V) (h : HT) : Option J := unc1 vs fun x0 =>
  bndC (f158 [x0] h) fun x4 h =>
  ret1 x4 h

/- (concord/wal.place).name -/
noncomputable def l95 : List (Nat × (List V → HT → Option J)) := [(79, f79)]
noncomputable def t95 : Fns := tab l95

noncomputable def f95 (vs : List V) (h : HT) : Option J := unc1 vs fun x0 =>
  bndN (rBox x0) h fun x1 h =>
  bndV (rFa 0 x1) fun x3 =>
  bndV (rLd h x3) fun x4 =>
  bndV (rFa 1 x1) fun x8 =>
  bndV (rLd h x8) fun x9 =>
  bndC (f79 [x4] h) fun x5 h =>
  chk1 (sameE (rLd h x8) x9) (bndV (rAdd (.str (sb [108, 111, 103, 46])) x5) fun x6 =>
  bndV (rAdd x6 (.str (sb [46]))) fun x7 =>
  bndC (f79 [x9] h) fun x10 h =>
  bndV (rAdd x7 x10) fun x11 =>
  ret1 x11 h)

/- (*concord/disk.Disk).known -/
noncomputable def l173 : List (Nat × (List V → HT → Option J)) := [(166, f166)]
noncomputable def t173 : Fns := tab l173

noncomputable def f173 (vs : List V) (h : HT) : Option J := unc2 vs fun x0 x1 =>
  bndV (rNilc x0) fun x9 =>
  bndV (rFa 2 x9) fun x10 =>
  bndV (rLd h x10) fun x11 =>
  tstv x11 (ret1 (.tuple [(.int .i64 (.ofNat (nat_lit 0))), (.int .i64 (.ofNat (nat_lit 10)))]) h)
  (bndC (f166 [x0, x1] h) fun x15 h =>
  bndV (rExt 0 x15) fun x16 =>
  bndV (rExt 1 x15) fun x17 =>
  bndV (rNot x17) fun x19 =>
  tstv x19 (ret1 (.tuple [(.int .i64 (.ofNat (nat_lit 0))), (.int .i64 (.ofNat (nat_lit 8)))]) h)
  (ret1 (.tuple [x16, (.int .i64 (.ofNat (nat_lit 0)))]) h))

/- (*concord/disk.Disk).power -/
noncomputable def l174 : List (Nat × (List V → HT → Option J)) := []
noncomputable def t174 : Fns := tab l174
noncomputable def f174_0 (x0 : V) (x13 : V) (h : HT) : Option J := tstv x13 (bndV (rNilc x0) fun x15 =>
  bndV (rFa 2 x15) fun x16 =>
  bndE (rSt h 1 x16 (.bool true)) h fun _ h =>
  ret1 (.int .i64 (.ofNat (nat_lit 10))) h)
  (bndV (rNilc x0) fun x18 =>
  bndV (rFa 3 x18) fun x19 =>
  bndV (rLd h x19) fun x20 =>
  tstv x20 (bndV (rNilc x0) fun x22 =>
  bndV (rFa 4 x22) fun x23 =>
  bndV (rLd h x23) fun x24 =>
  bndV (rSub x24 (.int .i64 (.ofNat (nat_lit 1)))) fun x25 =>
  bndV (rNilc x0) fun x26 =>
  bndV (rFa 4 x26) fun x27 =>
  bndE (rSt h 1 x27 x25) h fun _ h =>
  ret1 (.int .i64 (.ofNat (nat_lit 0))) h)
  (ret1 (.int .i64 (.ofNat (nat_lit 0))) h))
noncomputable def f174 (vs : List V) (h : HT) : Option J := unc1 vs fun x0 =>
  bndV (rNilc x0) fun x4 =>
  bndV (rFa 3 x4) fun x5 =>
  bndV (rLd h x5) fun x6 =>
  bndC (gsel x6 true (retV (kMov [x0]) h) h) fun x8 h =>
  bndC (gsel x6 true (retV (rNilc x8) h) h) fun x9 h =>
  bndC (gsel x6 true (retV (rFa 4 x9) h) h) fun x10 h =>
  bndC (gsel x6 true (retV (rLd h x10) h) h) fun x11 h =>
  bndC (gsel x6 true (retV (rEql x11 (.int .i64 (.ofNat (nat_lit 0)))) h) h) fun x12 h =>
  bndV (rPick x6 x12 (.bool false)) fun x13 =>
  (f174_0 x0 x13 h)

/- (*concord/disk.Disk).Sync -/
noncomputable def l97 : List (Nat × (List V → HT → Option J)) := [(173, f173), (174, f174)]
noncomputable def t97 : Fns := tab l97
noncomputable def f97_0 (x0 : V) (x11 : V) (x18 : V) (h : HT) : Option J := tstv x18 (bndV (rNilc x0) fun x20 =>
  bndV (rFa 1 x20) fun x21 =>
  bndV (rLd h x21) fun x22 =>
  bndV (rNilc x0) fun x25 =>
  bndV (rFa 1 x25) fun x26 =>
  bndV (rLd h x26) fun x27 =>
  bndV (rIaS 3 x27 x11) fun x29 =>
  bndV (rFa 1 x29) fun x30 =>
  bndV (rLd h x30) fun x31 =>
  bndV (rLenS x31) fun x32 =>
  bndV (rIaS 3 x22 x11) fun x33 =>
  bndV (rFa 2 x33) fun x34 =>
  bndE (rSt h 1 x34 x32) h fun _ h =>
  some ⟨0, [], h⟩)
  (some ⟨0, [], h⟩)
noncomputable def f97 (vs : List V) (h : HT) : Option J := unc2 vs fun x0 x1 =>
  bndC (f173 [x0, x1] h) fun x10 h =>
  bndV (rExt 0 x10) fun x11 =>
  bndV (rExt 1 x10) fun x12 =>
  bndV (rEql x12 (.int .i64 (.ofNat (nat_lit 0)))) fun x14 =>
  bndJ (tstv x14 (bndC (f174 [x0] h) fun x16 h =>
  some ⟨0, [x16], h⟩)
  (some ⟨0, [x12], h⟩))
  fun j vs h => unc1 vs fun x6 =>
  bndV (rEql x6 (.int .i64 (.ofNat (nat_lit 0)))) fun x18 =>
  bndJ ((f97_0 x0 x11 x18 h))
  fun j vs h => ret1 x6 h

/- concord/disk.may -/
noncomputable def l251 : List (Nat × (List V → HT → Option J)) := []
noncomputable def t251 : Fns := tab l251
noncomputable def f251_0 (rc : List V → HT → Option J) (x0 : V) (x12 : V) (vs : List V) (h : HT) : Option J := unc1 vs fun x13 =>
  bndV (rLss x13 x12) fun x14 =>
  tstv x14 (bndV (kIxStr [x0, x13]) fun x18 =>
  bndV (rLss x18 (.int .u8 (.ofNat (nat_lit 33)))) fun x19 =>
  bndC (gsel x19 false (retV (kMov [x0]) h) h) fun x21 h =>
  bndC (gsel x19 false (retV (kMov [x13]) h) h) fun x22 h =>
  bndC (gsel x19 false (retV (kIxStr [x21, x22]) h) h) fun x23 h =>
  bndC (gsel x19 false (retV (rGtr x23 (.int .u8 (.ofNat (nat_lit 126)))) h) h) fun x24 h =>
  bndV (rPick x19 (.bool true) x24) fun x25 =>
  tstv x25 (some ⟨1, [(.bool false)], h⟩)
  (bndV (rAdd x13 (.int .i64 (.ofNat (nat_lit 1)))) fun x26 =>
  rc [x26] h))
  (some ⟨0, [], h⟩)
noncomputable def f251_1 (x0 : V) (h : HT) : Option J := bndV (rEql x0 (.str (sb []))) fun x5 =>
  bndC (gsel x5 false (retV (kMov [x0]) h) h) fun x7 h =>
  bndC (gsel x5 false (retV (kLenT [x7]) h) h) fun x8 h =>
  bndC (gsel x5 false (retV (rGtr x8 (.int .i64 (.ofNat (nat_lit 24)))) h) h) fun x9 h =>
  bndV (rPick x5 (.bool true) x9) fun x10 =>
  tstv x10 (ret1 (.bool false) h)
  (bndV (kLenT [x0]) fun x12 =>
  bndJ (loopF (fun rc vs h => (f251_0 rc x0 x12 vs h)) 1000000 [(.int .i64 (.ofNat (nat_lit 0)))] h)
  fun j vs h => nsw j (ret1 (.bool true) h)
  fun j => unc1 vs fun x2 =>
  ret1 x2 h)
noncomputable def f251 (vs : List V) (h : HT) : Option J := unc1 vs fun x0 =>
  (f251_1 x0 h)

/- (*concord/disk.Disk).Total -/
noncomputable def l301 : List (Nat × (List V → HT → Option J)) := []
noncomputable def t301 : Fns := tab l301
noncomputable def f301_0 (x9 : V) (x10 : V) (h : HT) : Option J := loopF (fun rc vs h => unc2 vs fun x3 x11 =>
  bndV (rLss x11 x10) fun x12 =>
  tstv x12 (bndV (rIaS 3 x9 x11) fun x13 =>
  bndV (rLdN h 3 x13) fun x14 =>
  bndN (rAlloc [(.str (sb [])), (.slice none 0 true 0), (.int .i64 (.ofNat (nat_lit 0)))] []) h fun x5 h =>
  bndE (rSt h 3 x5 x14) h fun _ h =>
  bndV (rFa 1 x5) fun x16 =>
  bndV (rLd h x16) fun x17 =>
  bndV (rLenS x17) fun x18 =>
  bndV (rAdd x3 x18) fun x19 =>
  bndV (rAdd x11 (.int .i64 (.ofNat (nat_lit 1)))) fun x20 =>
  rc [x19, x20] h)
  (some ⟨0, [x3], h⟩)) 1000000 [(.int .i64 (.ofNat (nat_lit 0))), (.int .i64 (.ofNat (nat_lit 0)))] h
noncomputable def f301 (vs : List V) (h : HT) : Option J := unc1 vs fun x0 =>
  bndV (rNilc x0) fun x7 =>
  bndV (rFa 1 x7) fun x8 =>
  bndV (rLd h x8) fun x9 =>
  bndV (rLenS x9) fun x10 =>
  bndJ ((f301_0 x9 x10 h))
  fun j vs h => unc1 vs fun x3 =>
  ret1 x3 h

/- (*concord/disk.Disk).Room -/
noncomputable def l252 : List (Nat × (List V → HT → Option J)) := [(301, f301)]
noncomputable def t252 : Fns := tab l252

noncomputable def f252 (vs : List V) (h : HT) : Option J := unc1 vs fun x0 =>
  bndV (rNilc x0) fun x4 =>
  bndV (rFa 0 x4) fun x5 =>
  bndV (rLd h x5) fun x6 =>
  bndC (f301 [x0] h) fun x8 h =>
  chk1 (sameE (rLd h x5) x6) (bndV (rSub x6 x8) fun x9 =>
  ret1 x9 h)

/- slices.Insert[[]concord/disk.file,concord/disk.file] -/
noncomputable def l253 : List (Nat × (List V → HT → Option J)) := []
noncomputable def t253 : Fns := tab l253
noncomputable def f253_0 (x0 : V) (x1 : V) (x2 : V) (x14 : V) (x19 : V) (x22 : V) (h : HT) : Option J := tstv x22 (bndE (dApp h 3 48 [x0, x2]) h fun x25 h =>
  ret1 x25 h)
  (bndV (rAdd x19 x14) fun x28 =>
  bndV (kCapS [x0]) fun x30 =>
  bndV (rGtr x28 x30) fun x31 =>
  tstv x31 (bndV (kSlS 3 false true [x0, x1]) fun x34 =>
  bndV (rAdd x19 x14) fun x37 =>
  bndV (rSub x37 x1) fun x39 =>
  none)
  (bndV (rAdd x19 x14) fun x59 =>
  bndV (kSlS 3 false true [x0, x59]) fun x60 =>
  bndV (rAdd x1 x14) fun x65 =>
  bndV (kSlS 3 true false [x60, x65]) fun x66 =>
  none))
noncomputable def f253 (vs : List V) (h : HT) : Option J := unc3 vs fun x0 x1 x2 =>
  bndV (kSlS 3 true false [x0, x1]) fun x12 =>
  bndV (rLenS x2) fun x14 =>
  bndV (rEql x14 (.int .i64 (.ofNat (nat_lit 0)))) fun x16 =>
  tstv x16 (ret1 x0 h)
  (bndV (rLenS x0) fun x19 =>
  bndV (rEql x1 x19) fun x22 =>
  (f253_0 x0 x1 x2 x14 x19 x22 h))

/- slices.Concat[[]byte,byte] -/
noncomputable def l254 : List (Nat × (List V → HT → Option J)) := [(304, (cGrow 1 1))]
noncomputable def t254 : Fns := tab l254
noncomputable def f254_0 (rc : List V → HT → Option J) (x0 : V) (x3 : V) (x10 : V) (x11 : V) (h : HT) : Option J := bndV (rLss x11 x10) fun x12 =>
  tstv x12 (bndV (rIaS 1 x0 x11) fun x13 =>
  bndV (rLd h x13) fun x14 =>
  bndV (rLenS x14) fun x17 =>
  bndV (rAdd x3 x17) fun x18 =>
  bndV (rLss x18 (.int .i64 (.ofNat (nat_lit 0)))) fun x20 =>
  bndJ (tstv x20 (bndV (kMkI 9 [(.str (sb [108, 101, 110, 32, 111, 117, 116, 32, 111, 102, 32, 114, 97, 110, 103, 101]))]) fun x21 =>
  none)
  (some ⟨0, [], h⟩))
  fun j vs h => bndV (rAdd x11 (.int .i64 (.ofNat (nat_lit 1)))) fun x22 =>
  rc [x18, x22] h)
  (some ⟨0, [x3], h⟩)
noncomputable def f254_1 (x0 : V) (x3 : V) (h : HT) : Option J := bndC ((cGrow 1 1) [(.slice none 0 true 0), x3] h) fun x24 h =>
  bndV (rLenS x0) fun x26 =>
  bndJ (loopF (fun rc vs h => unc2 vs fun x6 x27 =>
  bndV (rLss x27 x26) fun x28 =>
  tstv x28 (bndV (rIaS 1 x0 x27) fun x29 =>
  bndV (rLd h x29) fun x30 =>
  bndE (dApp h 1 1 [x6, x30]) h fun x33 h =>
  bndV (rAdd x27 (.int .i64 (.ofNat (nat_lit 1)))) fun x34 =>
  rc [x33, x34] h)
  (some ⟨0, [x6], h⟩)) 1000000 [x24, (.int .i64 (.ofNat (nat_lit 0)))] h)
  fun j vs h => unc1 vs fun x6 =>
  ret1 x6 h
noncomputable def f254 (vs : List V) (h : HT) : Option J := unc1 vs fun x0 =>
  bndV (rLenS x0) fun x10 =>
  bndJ (loopF (fun rc vs h => unc2 vs fun x3 x11 =>
  (f254_0 rc x0 x3 x10 x11 h)) 1000000 [(.int .i64 (.ofNat (nat_lit 0))), (.int .i64 (.ofNat (nat_lit 0)))] h)
  fun j vs h => unc1 vs fun x3 =>
  (f254_1 x0 x3 h)

/- (*concord/disk.Disk).Append -/
noncomputable def l188 : List (Nat × (List V → HT → Option J)) := [(166, f166), (174, f174), (251, f251), (252, f252), (253, f253), (254, f254)]
noncomputable def t188 : Fns := tab l188
noncomputable def f188_0 (x0 : V) (x2 : V) (x34 : V) (x51 : V) (h : HT) : Option J := bndV (rFa 1 x51) fun x52 =>
  bndV (rLd h x52) fun x53 =>
  bndV (rNilc x0) fun x56 =>
  bndV (rFa 1 x56) fun x57 =>
  bndV (rLd h x57) fun x58 =>
  bndV (rIaS 3 x58 x34) fun x60 =>
  bndV (rFa 1 x60) fun x61 =>
  bndV (rLd h x61) fun x62 =>
  bndN (rBsl 1 2 [(.slice none 0 true 0), (.slice none 0 true 0)] [(0, 1), (1, 1)] [x62, x2]) h fun x64 h =>
  bndC (f254 [x64] h) fun x65 h =>
  chk1 (sameE (rLd h x52) x53) (bndV (rIaS 3 x53 x34) fun x66 =>
  bndV (rFa 1 x66) fun x67 =>
  bndE (rSt h 1 x67 x65) h fun _ h =>
  ret1 (.int .i64 (.ofNat (nat_lit 0))) h)
noncomputable def f188_1 (x0 : V) (x1 : V) (x2 : V) (x34 : V) (x37 : V) (h : HT) : Option J := bndJ (tstv x37 (bndV (rNilc x0) fun x40 =>
  bndV (rFa 1 x40) fun x41 =>
  bndV (rLd h x41) fun x42 =>
  bndV (rBld [(.str (sb [])), (.slice none 0 true 0), (.int .i64 (.ofNat (nat_lit 0)))] [(0, 1)] [x1]) fun x45 =>
  bndN (rBsl 3 1 [(.str (sb [])), (.slice none 0 true 0), (.int .i64 (.ofNat (nat_lit 0)))] [(0, 3)] [x45]) h fun x46 h =>
  bndC (f253 [x42, x34, x46] h) fun x47 h =>
  bndV (rNilc x0) fun x48 =>
  bndV (rFa 1 x48) fun x49 =>
  bndE (rSt h 1 x49 x47) h fun _ h =>
  some ⟨0, [], h⟩)
  (some ⟨0, [], h⟩))
  fun j vs h => bndV (rNilc x0) fun x51 =>
  (f188_0 x0 x2 x34 x51 h)
noncomputable def f188_2 (x0 : V) (x1 : V) (x2 : V) (x18 : V) (h : HT) : Option J := tstv x18 (ret1 (.int .i64 (.ofNat (nat_lit 11))) h)
  (bndV (rLenS x2) fun x21 =>
  bndC (f252 [x0] h) fun x23 h =>
  bndV (rGtr x21 x23) fun x24 =>
  tstv x24 (ret1 (.int .i64 (.ofNat (nat_lit 7))) h)
  (bndC (f174 [x0] h) fun x26 h =>
  bndV (rNeq x26 (.int .i64 (.ofNat (nat_lit 0)))) fun x28 =>
  tstv x28 (ret1 x26 h)
  (bndC (f166 [x0, x1] h) fun x33 h =>
  bndV (rExt 0 x33) fun x34 =>
  bndV (rExt 1 x33) fun x35 =>
  bndV (rNot x35) fun x37 =>
  (f188_1 x0 x1 x2 x34 x37 h))))
noncomputable def f188 (vs : List V) (h : HT) : Option J := unc3 vs fun x0 x1 x2 =>
  bndV (rNilc x0) fun x12 =>
  bndV (rFa 2 x12) fun x13 =>
  bndV (rLd h x13) fun x14 =>
  tstv x14 (ret1 (.int .i64 (.ofNat (nat_lit 10))) h)
  (bndC (f251 [x1] h) fun x17 h =>
  bndV (rNot x17) fun x18 =>
  (f188_2 x0 x1 x2 x18 h))

/- (*concord/wal.Wal).write -/
noncomputable def l111 : List (Nat × (List V → HT → Option J)) := [(95, f95), (97, f97), (188, f188)]
noncomputable def t111 : Fns := tab l111
noncomputable def f111_0 (x0 : V) (x4 : V) (x15 : V) (x20 : V) (h : HT) : Option J := bndJ (tstv x20 (bndV (rNilc x0) fun x22 =>
  bndV (rFa 0 x22) fun x23 =>
  bndV (rLd h x23) fun x24 =>
  bndV (rLdN h 2 x4) fun x25 =>
  bndC (f95 [x25] h) fun x26 h =>
  chk1 (sameE (rLd h x23) x24) (bndC (f97 [x24, x26] h) fun x27 h =>
  some ⟨0, [x27], h⟩))
  (some ⟨0, [x15], h⟩))
  fun j vs h => unc1 vs fun x7 =>
  bndV (rNeq x7 (.int .i64 (.ofNat (nat_lit 0)))) fun x30 =>
  bndV (rNilc x0) fun x31 =>
  bndV (rFa 3 x31) fun x32 =>
  bndE (rSt h 1 x32 x30) h fun _ h =>
  ret1 x7 h
noncomputable def f111 (vs : List V) (h : HT) : Option J := unc3 vs fun x0 x1 x2 =>
  bndN (rBox x1) h fun x4 h =>
  bndV (rNilc x0) fun x9 =>
  bndV (rFa 0 x9) fun x10 =>
  bndV (rLd h x10) fun x11 =>
  bndV (rLdN h 2 x4) fun x12 =>
  bndC (f95 [x12] h) fun x13 h =>
  chk1 (sameE (rLd h x10) x11) (bndC (f188 [x11, x13, x2] h) fun x15 h =>
  bndV (rEql x15 (.int .i64 (.ofNat (nat_lit 7)))) fun x17 =>
  tstv x17 (ret1 x15 h)
  (bndV (rEql x15 (.int .i64 (.ofNat (nat_lit 0)))) fun x20 =>
  (f111_0 x0 x4 x15 x20 h)))

/- (*concord/wal.Wal).Anew -/
noncomputable def l42 : List (Nat × (List V → HT → Option J)) := [(108, f108), (109, f109), (110, f110), (111, f111)]
noncomputable def t42 : Fns := tab l42
noncomputable def f42_0 (rc : List V → HT → Option J) (x0 : V) (x9 : V) (x57 : V) (x58 : V) (x60 : V) (h : HT) : Option J := bndV (rFa 1 x60) fun x61 =>
  bndV (rFa 0 x61) fun x62 =>
  bndV (rLd h x62) fun x63 =>
  bndV (rBld [(.int .i64 (.ofNat (nat_lit 0))), (.int .i64 (.ofNat (nat_lit 0)))] [(0, 1), (1, 1)] [x63, x9]) fun x65 =>
  bndC (noF [x65] h) fun x66 h =>
  chk1 (sameE (rLd h x57) x58) (bndC (noF [x58, x66] h) fun x67 h =>
  bndV (rNeq x67 (.int .i64 (.ofNat (nat_lit 0)))) fun x69 =>
  tstv x69 (bndV (rNilc x0) fun x71 =>
  bndV (rFa 3 x71) fun x72 =>
  bndE (rSt h 1 x72 (.bool true)) h fun _ h =>
  some ⟨1, [x67], h⟩)
  (bndV (rAdd x9 (.int .i64 (.ofNat (nat_lit 1)))) fun x54 =>
  rc [x54] h))
noncomputable def f42_1 (x0 : V) (x7 : V) (h : HT) : Option J := bndJ (loopF (fun rc vs h => unc1 vs fun x9 =>
  bndV (rNilc x0) fun x48 =>
  bndV (rFa 1 x48) fun x49 =>
  bndV (rFa 1 x49) fun x50 =>
  bndV (rLd h x50) fun x51 =>
  bndV (rLeq x9 x51) fun x52 =>
  tstv x52 (bndV (rNilc x0) fun x56 =>
  bndV (rFa 0 x56) fun x57 =>
  bndV (rLd h x57) fun x58 =>
  bndV (rNilc x0) fun x60 =>
  (f42_0 rc x0 x9 x57 x58 x60 h))
  (some ⟨0, [], h⟩)) 1000000 [(.int .i64 (.ofNat (nat_lit 1)))] h)
  fun j vs h => nsw j (bndV (rLdN h 2 x7) fun x75 =>
  bndV (rNilc x0) fun x76 =>
  bndV (rFa 1 x76) fun x77 =>
  bndE (rSt h 2 x77 x75) h fun _ h =>
  ret1 (.int .i64 (.ofNat (nat_lit 0))) h)
  fun j => unc1 vs fun x4 =>
  ret1 x4 h
noncomputable def f42_2 (x0 : V) (x22 : V) (x31 : V) (h : HT) : Option J := tstv x31 (ret1 (.int .i64 (.ofNat (nat_lit 7))) h)
  (bndV (rNilc x0) fun x33 =>
  bndV (rFa 1 x33) fun x34 =>
  bndV (rFa 0 x34) fun x35 =>
  bndV (rLd h x35) fun x36 =>
  bndV (rAdd x36 (.int .i64 (.ofNat (nat_lit 1)))) fun x37 =>
  bndV (rBld [(.int .i64 (.ofNat (nat_lit 0))), (.int .i64 (.ofNat (nat_lit 0)))] [(0, 1), (1, 1)] [x37, (.int .i64 (.ofNat (nat_lit 1)))]) fun x38 =>
  bndN (rAlloc [(.int .i64 (.ofNat (nat_lit 0))), (.int .i64 (.ofNat (nat_lit 0)))] []) h fun x7 h =>
  bndE (rSt h 2 x7 x38) h fun _ h =>
  bndV (rLdN h 2 x7) fun x40 =>
  bndC (f111 [x0, x40, x22] h) fun x42 h =>
  bndV (rNeq x42 (.int .i64 (.ofNat (nat_lit 0)))) fun x44 =>
  tstv x44 (ret1 x42 h)
  ((f42_1 x0 x7 h)))
noncomputable def f42_3 (x0 : V) (x1 : V) (h : HT) : Option J := bndV (rLenS x1) fun x17 =>
  bndC (f110 [(.slice none 0 true 0), x17] h) fun x18 h =>
  bndC (f109 [(.slice none 0 true 0), x18] h) fun x19 h =>
  bndC (f108 [x19, x1] h) fun x21 h =>
  bndV (rExt 0 x21) fun x22 =>
  bndV (rExt 1 x21) fun x23 =>
  bndV (rNot x23) fun x25 =>
  tstv x25 (ret1 (.int .i64 (.ofNat (nat_lit 1))) h)
  (bndV (rNilc x0) fun x27 =>
  bndV (rFa 1 x27) fun x28 =>
  bndV (rFa 0 x28) fun x29 =>
  bndV (rLd h x29) fun x30 =>
  bndV (rGeq x30 (.int .i64 (.ofNat (nat_lit 999999999)))) fun x31 =>
  (f42_2 x0 x22 x31 h))
noncomputable def f42 (vs : List V) (h : HT) : Option J := unc2 vs fun x0 x1 =>
  bndV (rNilc x0) fun x12 =>
  bndV (rFa 3 x12) fun x13 =>
  bndV (rLd h x13) fun x14 =>
  tstv x14 (ret1 (.int .i64 (.ofNat (nat_lit 10))) h)
  ((f42_3 x0 x1 h))

/- concord/node.cutRecord -/
noncomputable def l43 : List (Nat × (List V → HT → Option J)) := [(110, f110)]
noncomputable def t43 : Fns := tab l43
noncomputable def f43_0 (x0 : V) (h : HT) : Option J := bndN (rBox x0) h fun x1 h =>
  bndN (rBsl 1 1 [(.int .u8 (.ofNat (nat_lit 0)))] [(0, 1)] [(.int .u8 (.ofNat (nat_lit 1)))]) h fun x6 h =>
  bndV (rLdN h 7 x1) fun x7 =>
  bndJ (loopF (fun rc vs h => unc2 vs fun x3 x8 =>
  bndV (rLss x8 (.int .i64 (.ofNat (nat_lit 7)))) fun x9 =>
  tstv x9 (bndV (rIxA 7 1 x7 x8) fun x10 =>
  bndC (f110 [x3, x10] h) fun x13 h =>
  bndV (rAdd x8 (.int .i64 (.ofNat (nat_lit 1)))) fun x14 =>
  rc [x13, x14] h)
  (some ⟨0, [x3], h⟩)) 1000000 [x6, (.int .i64 (.ofNat (nat_lit 0)))] h)
  fun j vs h => unc1 vs fun x3 =>
  ret1 x3 h
noncomputable def f43 (vs : List V) (h : HT) : Option J := unc1 vs fun x0 =>
  (f43_0 x0 h)

/- (*concord/front.Fronts).Hear -/
noncomputable def l44 : List (Nat × (List V → HT → Option J)) := [(101, f101)]
noncomputable def t44 : Fns := tab l44
noncomputable def f44_0 (rc : List V → HT → Option J) (x0 : V) (x1 : V) (x25 : V) (x26 : V) (x27 : V) (h : HT) : Option J := tstv x27 (bndV (rIxA 7 1 x25 x26) fun x29 =>
  bndV (rNilc x0) fun x36 =>
  bndV (rFa 2 x36) fun x37 =>
  bndV (rIaA 7 7 x37 x1) fun x38 =>
  bndV (rIaA 7 1 x38 x26) fun x39 =>
  bndV (rLd h x39) fun x40 =>
  bndV (rMax x40 x29) fun x42 =>
  bndV (rNilc x0) fun x43 =>
  bndV (rFa 2 x43) fun x44 =>
  bndV (rIaA 7 7 x44 x1) fun x45 =>
  bndV (rIaA 7 1 x45 x26) fun x46 =>
  bndE (rSt h 1 x46 x42) h fun _ h =>
  bndV (rAdd x26 (.int .i64 (.ofNat (nat_lit 1)))) fun x47 =>
  rc [x47] h)
  (some ⟨0, [], h⟩)
noncomputable def f44_1 (x0 : V) (x1 : V) (x5 : V) (x10 : V) (x17 : V) (h : HT) : Option J := bndV (rPick x10 (.bool true) x17) fun x18 =>
  bndC (gsel x18 false (retV (rLdN h 7 x5) h) h) fun x20 h =>
  bndC (gsel x18 false (retV (rBld [(.int .i64 (.ofNat (nat_lit 0))), (.int .i64 (.ofNat (nat_lit 0))), (.int .i64 (.ofNat (nat_lit 0))), (.int .i64 (.ofNat (nat_lit 0))), (.int .i64 (.ofNat (nat_lit 0))), (.int .i64 (.ofNat (nat_lit 0))), (.int .i64 (.ofNat (nat_lit 0))), (.int .i64 (.ofNat (nat_lit 0)))] [(1, 7)] [x20]) h) h) fun x21 h =>
  bndC (gsel x18 false (f101 [x21] h) h) fun x22 h =>
  bndC (gsel x18 false (retV (rNot x22) h) h) fun x23 h =>
  bndV (rPick x18 (.bool true) x23) fun x24 =>
  tstv x24 (ret1 (.bool false) h)
  (bndV (rLdN h 7 x5) fun x25 =>
  bndJ (loopF (fun rc vs h => unc1 vs fun x26 =>
  bndV (rLss x26 (.int .i64 (.ofNat (nat_lit 7)))) fun x27 =>
  (f44_0 rc x0 x1 x25 x26 x27 h)) 1000000 [(.int .i64 (.ofNat (nat_lit 0)))] h)
  fun j vs h => ret1 (.bool true) h)
noncomputable def f44 (vs : List V) (h : HT) : Option J := unc3 vs fun x0 x1 x2 =>
  bndN (rBox x2) h fun x5 h =>
  bndV (rLss x1 (.int .i64 (.ofNat (nat_lit 0)))) fun x10 =>
  bndC (gsel x10 false (retV (kMov [x1]) h) h) fun x12 h =>
  bndC (gsel x10 false (retV (kMov [x0]) h) h) fun x13 h =>
  bndC (gsel x10 false (retV (rNilc x13) h) h) fun x14 h =>
  bndC (gsel x10 false (retV (rFa 0 x14) h) h) fun x15 h =>
  bndC (gsel x10 false (retV (rLd h x15) h) h) fun x16 h =>
  bndC (gsel x10 false (retV (rGeq x12 x16) h) h) fun x17 h =>
  (f44_1 x0 x1 x5 x10 x17 h)

/- (*concord/core.Core).Drain -/
noncomputable def l189 : List (Nat × (List V → HT → Option J)) := []
noncomputable def t189 : Fns := tab l189

noncomputable def f189 (vs : List V) (h : HT) : Option J := unc1 vs fun x0 =>
  bndV (rNilc x0) fun x7 =>
  bndV (rFa 6 x7) fun x8 =>
  bndV (rLd h x8) fun x9 =>
  bndV (rNilc x0) fun x11 =>
  bndV (rFa 7 x11) fun x12 =>
  bndV (rLd h x12) fun x13 =>
  bndV (rNilc x0) fun x16 =>
  bndV (rFa 6 x16) fun x17 =>
  bndE (rSt h 1 x17 (.slice none 0 true 0)) h fun _ h =>
  bndV (rNilc x0) fun x18 =>
  bndV (rFa 7 x18) fun x19 =>
  bndE (rSt h 1 x19 (.slice none 0 true 0)) h fun _ h =>
  ret1 (.tuple [x9, x13]) h

/- concord/node.cellRecord -/
noncomputable def l190 : List (Nat × (List V → HT → Option J)) := []
noncomputable def t190 : Fns := tab l190

noncomputable def f190 (vs : List V) (h : HT) : Option J := unc1 vs fun x0 =>
  bndN (rBsl 1 1 [(.int .u8 (.ofNat (nat_lit 0)))] [(0, 1)] [(.int .u8 (.ofNat (nat_lit 2)))]) h fun x3 h =>
  bndE (dApp h 1 1 [x3, x0]) h fun x5 h =>
  ret1 x5 h

/- (*concord/wal.Wal).Add -/
noncomputable def l191 : List (Nat × (List V → HT → Option J)) := [(89, f89), (95, f95), (108, f108), (111, f111)]
noncomputable def t191 : Fns := tab l191
noncomputable def f191_0 (x0 : V) (x7 : V) (x24 : V) (x52 : V) (h : HT) : Option J := bndJ (tstv x52 (bndV (rFa 1 x7) fun x53 =>
  bndV (rLd h x53) fun x54 =>
  bndV (rAdd x54 (.int .i64 (.ofNat (nat_lit 1)))) fun x55 =>
  bndV (rFa 1 x7) fun x56 =>
  bndE (rSt h 1 x56 x55) h fun _ h =>
  some ⟨0, [], h⟩)
  (some ⟨0, [], h⟩))
  fun j vs h => bndV (rLdN h 2 x7) fun x58 =>
  bndC (f111 [x0, x58, x24] h) fun x60 h =>
  bndV (rNeq x60 (.int .i64 (.ofNat (nat_lit 0)))) fun x62 =>
  tstv x62 (ret1 x60 h)
  (bndV (rLdN h 2 x7) fun x65 =>
  bndV (rNilc x0) fun x66 =>
  bndV (rFa 1 x66) fun x67 =>
  bndE (rSt h 2 x67 x65) h fun _ h =>
  ret1 (.int .i64 (.ofNat (nat_lit 0))) h)
noncomputable def f191_1 (x0 : V) (x7 : V) (x24 : V) (x37 : V) (h : HT) : Option J := bndV (rFa 0 x37) fun x38 =>
  bndV (rLd h x38) fun x39 =>
  bndV (rLdN h 2 x7) fun x40 =>
  bndC (f95 [x40] h) fun x41 h =>
  chk1 (sameE (rLd h x38) x39) (bndC (f89 [x39, x41] h) fun x42 h =>
  bndV (rExt 0 x42) fun x43 =>
  bndV (rExt 1 x42) fun x44 =>
  bndV (rLenS x43) fun x46 =>
  bndV (rGtr x46 (.int .i64 (.ofNat (nat_lit 4096)))) fun x47 =>
  bndC (gsel x47 true (retV (rFa 1 x7) h) h) fun x49 h =>
  bndC (gsel x47 true (retV (rLd h x49) h) h) fun x50 h =>
  bndC (gsel x47 true (retV (rLss x50 (.int .i64 (.ofNat (nat_lit 999999999)))) h) h) fun x51 h =>
  bndV (rPick x47 x51 (.bool false)) fun x52 =>
  (f191_0 x0 x7 x24 x52 h))
noncomputable def f191_2 (x0 : V) (x1 : V) (x23 : V) (x24 : V) (h : HT) : Option J := bndV (rExt 1 x23) fun x25 =>
  bndV (rNot x25) fun x27 =>
  tstv x27 (ret1 (.int .i64 (.ofNat (nat_lit 1))) h)
  (bndV (rLenS x1) fun x29 =>
  bndV (rEql x29 (.int .i64 (.ofNat (nat_lit 0)))) fun x30 =>
  tstv x30 (ret1 (.int .i64 (.ofNat (nat_lit 0))) h)
  (bndV (rNilc x0) fun x32 =>
  bndV (rFa 1 x32) fun x33 =>
  bndV (rLdN h 2 x33) fun x34 =>
  bndN (rAlloc [(.int .i64 (.ofNat (nat_lit 0))), (.int .i64 (.ofNat (nat_lit 0)))] []) h fun x7 h =>
  bndE (rSt h 2 x7 x34) h fun _ h =>
  bndV (rNilc x0) fun x37 =>
  (f191_1 x0 x7 x24 x37 h)))
noncomputable def f191_3 (x0 : V) (x1 : V) (h : HT) : Option J := bndV (rNilc x0) fun x12 =>
  bndV (rFa 3 x12) fun x13 =>
  bndV (rLd h x13) fun x14 =>
  tstv x14 (ret1 (.int .i64 (.ofNat (nat_lit 10))) h)
  (bndV (rNilc x0) fun x16 =>
  bndV (rFa 1 x16) fun x17 =>
  bndV (rFa 0 x17) fun x18 =>
  bndV (rLd h x18) fun x19 =>
  bndV (rEql x19 (.int .i64 (.ofNat (nat_lit 0)))) fun x20 =>
  tstv x20 (ret1 (.int .i64 (.ofNat (nat_lit 8))) h)
  (bndC (f108 [(.slice none 0 true 0), x1] h) fun x23 h =>
  bndV (rExt 0 x23) fun x24 =>
  (f191_2 x0 x1 x23 x24 h)))
noncomputable def f191 (vs : List V) (h : HT) : Option J := unc2 vs fun x0 x1 =>
  (f191_3 x0 x1 h)

/- (*concord/node.Node).drain -/
noncomputable def l112 : List (Nat × (List V → HT → Option J)) := [(189, f189), (190, f190), (191, f191)]
noncomputable def t112 : Fns := tab l112
noncomputable def f112_0 (x0 : V) (x13 : V) (x14 : V) (x29 : V) (h : HT) : Option J := bndV (rFa 3 x29) fun x30 =>
  bndV (rLd h x30) fun x31 =>
  bndC (f191 [x31, x13] h) fun x33 h =>
  bndV (rNeq x33 (.int .i64 (.ofNat (nat_lit 0)))) fun x34 =>
  tstv x34 (bndC (noF [x0] h) fun x36 h =>
  ret1 (.bool false) h)
  (bndV (rNilc x0) fun x39 =>
  bndV (rFa 72 x39) fun x40 =>
  bndV (rLd h x40) fun x41 =>
  bndE (dApp h 51 480 [x41, x14]) h fun x43 h =>
  bndV (rNilc x0) fun x44 =>
  bndV (rFa 72 x44) fun x45 =>
  bndE (rSt h 1 x45 x43) h fun _ h =>
  ret1 (.bool true) h)
noncomputable def f112_1 (x0 : V) (x13 : V) (x14 : V) (x16 : V) (h : HT) : Option J := bndJ (loopF (fun rc vs h => unc1 vs fun x17 =>
  bndV (rLss x17 x16) fun x18 =>
  tstv x18 (bndV (rIaS 1 x13 x17) fun x20 =>
  bndV (rLd h x20) fun x21 =>
  bndC (f190 [x21] h) fun x25 h =>
  bndV (rIaS 1 x13 x17) fun x26 =>
  bndE (rSt h 1 x26 x25) h fun _ h =>
  bndV (rAdd x17 (.int .i64 (.ofNat (nat_lit 1)))) fun x27 =>
  rc [x27] h)
  (some ⟨0, [], h⟩)) 1000000 [(.int .i64 (.ofNat (nat_lit 0)))] h)
  fun j vs h => bndV (rNilc x0) fun x29 =>
  (f112_0 x0 x13 x14 x29 h)
noncomputable def f112 (vs : List V) (h : HT) : Option J := unc1 vs fun x0 =>
  bndV (rNilc x0) fun x9 =>
  bndV (rFa 4 x9) fun x10 =>
  bndV (rLd h x10) fun x11 =>
  bndC (f189 [x11] h) fun x12 h =>
  bndV (rExt 0 x12) fun x13 =>
  bndV (rExt 1 x12) fun x14 =>
  bndV (rLenS x13) fun x16 =>
  (f112_1 x0 x13 x14 x16 h)

/- concord/inst.New -/
noncomputable def l305 : List (Nat × (List V → HT → Option J)) := []
noncomputable def t305 : Fns := tab l305
noncomputable def f305_0 (rc : List V → HT → Option J) (x0 : V) (x8 : V) (x10 : V) (x11 : V) (h : HT) : Option J := bndV (rLss x11 x10) fun x12 =>
  tstv x12 (bndV (rIaS 2 x0 x11) fun x13 =>
  bndV (rLdN h 2 x13) fun x14 =>
  bndN (rAlloc [(.int .i64 (.ofNat (nat_lit 0))), (.int .i64 (.ofNat (nat_lit 0)))] []) h fun x5 h =>
  bndE (rSt h 2 x5 x14) h fun _ h =>
  bndV (rNilc x8) fun x16 =>
  bndV (rFa 0 x16) fun x17 =>
  bndV (rLd h x17) fun x18 =>
  bndV (rLdN h 2 x5) fun x19 =>
  bndV (rBld [] [] []) fun x20 =>
  bndE (dMset h true [.i, .i] [x18, x19, x20]) h fun _ h =>
  bndV (rAdd x11 (.int .i64 (.ofNat (nat_lit 1)))) fun x21 =>
  rc [x21] h)
  (some ⟨0, [], h⟩)
noncomputable def f305 (vs : List V) (h : HT) : Option J := unc1 vs fun x0 =>
  bndN (kMkM []) h fun x6 h =>
  bndV (rBld [(.map none)] [(0, 1)] [x6]) fun x7 =>
  bndN (rBox x7) h fun x8 h =>
  bndV (rLenS x0) fun x10 =>
  bndJ (loopF (fun rc vs h => unc1 vs fun x11 =>
  (f305_0 rc x0 x8 x10 x11 h)) 1000000 [(.int .i64 (.ofNat (nat_lit 0)))] h)
  fun j vs h => ret1 x8 h

/- (*concord/exec.plan).beyond -/
noncomputable def l306 : List (Nat × (List V → HT → Option J)) := []
noncomputable def t306 : Fns := tab l306
noncomputable def f306_0 (rc : List V → HT → Option J) (x3 : V) (x5 : V) (x14 : V) (h : HT) : Option J := bndE (rSt h 2 x5 x14) h fun _ h =>
  bndV (rFa 0 x5) fun x15 =>
  bndV (rLd h x15) fun x16 =>
  bndV (rFa 0 x3) fun x17 =>
  bndV (rLd h x17) fun x18 =>
  bndV (rEql x16 x18) fun x19 =>
  bndC (gsel x19 true (retV (rFa 1 x5) h) h) fun x21 h =>
  bndC (gsel x19 true (retV (rLd h x21) h) h) fun x22 h =>
  bndC (gsel x19 true (retV (rFa 1 x3) h) h) fun x23 h =>
  bndC (gsel x19 true (retV (rLd h x23) h) h) fun x24 h =>
  bndC (gsel x19 true (retV (rGtr x22 x24) h) h) fun x25 h =>
  bndV (rPick x19 x25 (.bool false)) fun x26 =>
  tstv x26 (some ⟨1, [(.bool true)], h⟩)
  (rc [] h)
noncomputable def f306_1 (x3 : V) (x9 : V) (h : HT) : Option J := bndN (kRng h.heap [x9]) h fun x10 h =>
  bndJ (loopF (fun rc vs h => bndE (dNx h [x10]) h fun x11 h =>
  bndV (rExt 0 x11) fun x12 =>
  tstv x12 (bndV (kEnt h.heap [x10]) fun x13 =>
  bndV (rExt 0 x13) fun x14 =>
  bndN (rAlloc [(.int .i64 (.ofNat (nat_lit 0))), (.int .i64 (.ofNat (nat_lit 0)))] []) h fun x5 h =>
  (f306_0 rc x3 x5 x14 h))
  (some ⟨0, [], h⟩)) 1000000 [] h)
  fun j vs h => nsw j (ret1 (.bool false) h)
  fun j => unc1 vs fun x4 =>
  ret1 x4 h
noncomputable def f306 (vs : List V) (h : HT) : Option J := unc2 vs fun x0 x1 =>
  bndN (rBox x1) h fun x3 h =>
  bndV (rNilc x0) fun x7 =>
  bndV (rFa 7 x7) fun x8 =>
  bndV (rLd h x8) fun x9 =>
  (f306_1 x3 x9 h)

/- concord/exec.upto -/
noncomputable def l348 : List (Nat × (List V → HT → Option J)) := []
noncomputable def t348 : Fns := tab l348
noncomputable def f348_0 (x2 : V) (x3 : V) (x4 : V) (x10 : V) (h : HT) : Option J := tstv x10 (bndV (rFa 12 x4) fun x12 =>
  bndV (rFa 1 x12) fun x13 =>
  bndV (rIaA 7 1 x13 x2) fun x14 =>
  bndV (rLd h x14) fun x15 =>
  bndV (rFa 1 x3) fun x16 =>
  bndV (rLd h x16) fun x17 =>
  bndV (rSub x17 (.int .i64 (.ofNat (nat_lit 1)))) fun x18 =>
  bndV (rMax x15 x18) fun x19 =>
  ret1 x19 h)
  (bndV (rFa 12 x4) fun x21 =>
  bndV (rFa 1 x21) fun x22 =>
  bndV (rIaA 7 1 x22 x2) fun x23 =>
  bndV (rLd h x23) fun x24 =>
  ret1 x24 h)
noncomputable def f348 (vs : List V) (h : HT) : Option J := unc3 vs fun x0 x1 x2 =>
  bndN (rBox x0) h fun x3 h =>
  bndN (rBox x1) h fun x4 h =>
  bndV (rFa 0 x3) fun x8 =>
  bndV (rLd h x8) fun x9 =>
  bndV (rEql x2 x9) fun x10 =>
  (f348_0 x2 x3 x4 x10 h)

/- (*concord/exec.plan).hangs -/
noncomputable def l308 : List (Nat × (List V → HT → Option J)) := [(305, f305), (348, f348)]
noncomputable def t308 : Fns := tab l308
noncomputable def f308_0 (rc : List V → HT → Option J) (x5 : V) (x13 : V) (x14 : V) (x19 : V) (x7_1 : V) (x73 : V) (h : HT) : Option J := tstv x73 (bndV (rLdN h 2 x14) fun x74 =>
  bndE (rSt h 2 x5 x74) h fun _ h =>
  some ⟨1, [(.slice none 0 true 0)], h⟩)
  (bndV (rLdN h 2 x14) fun x76 =>
  bndC (noF [x19, x76] h) fun x77 h =>
  bndJ (tstv x77 (bndV (rLdN h 2 x14) fun x79 =>
  bndN (rBsl 2 1 [(.int .i64 (.ofNat (nat_lit 0))), (.int .i64 (.ofNat (nat_lit 0)))] [(0, 2)] [x79]) h fun x80 h =>
  bndE (dApp h 2 16 [x7_1, x80]) h fun x81 h =>
  some ⟨0, [x81], h⟩)
  (some ⟨0, [x7_1], h⟩))
  fun j vs h => unc1 vs fun x7_1 =>
  bndV (rAdd x13 (.int .i64 (.ofNat (nat_lit 1)))) fun x59 =>
  rc [x7_1, x59] h)
noncomputable def f308_1 (rc : List V → HT → Option J) (x0 : V) (x5 : V) (x13 : V) (x19 : V) (x41 : V) (x57 : V) (x7_1 : V) (h : HT) : Option J := tstv x57 (bndV (rBld [(.int .i64 (.ofNat (nat_lit 0))), (.int .i64 (.ofNat (nat_lit 0)))] [(0, 1), (1, 1)] [x41, x13]) fun x62 =>
  bndN (rAlloc [(.int .i64 (.ofNat (nat_lit 0))), (.int .i64 (.ofNat (nat_lit 0)))] []) h fun x14 h =>
  bndE (rSt h 2 x14 x62) h fun _ h =>
  bndV (rNilc x0) fun x65 =>
  bndV (rFa 7 x65) fun x66 =>
  bndV (rLd h x66) fun x67 =>
  bndV (rLdN h 2 x14) fun x68 =>
  bndV (kLkp h.heap true [.i, .i] (.agg [(.int .i64 (.ofNat (nat_lit 0))), (.int .i64 (.ofNat (nat_lit 0))), (.int .i64 (.ofNat (nat_lit 0))), (.int .i64 (.ofNat (nat_lit 0))), (.int .i64 (.ofNat (nat_lit 0))), (.int .i64 (.ofNat (nat_lit 0))), (.int .i64 (.ofNat (nat_lit 0))), (.int .i64 (.ofNat (nat_lit 0))), (.str (sb [])), (.str (sb [])), (.str (sb [])), (.str (sb [])), (.int .i64 (.ofNat (nat_lit 0))), (.int .i64 (.ofNat (nat_lit 0))), (.int .i64 (.ofNat (nat_lit 0))), (.int .i64 (.ofNat (nat_lit 0))), (.int .i64 (.ofNat (nat_lit 0))), (.int .i64 (.ofNat (nat_lit 0))), (.int .i64 (.ofNat (nat_lit 0))), (.int .i64 (.ofNat (nat_lit 0))), (.bool false)]) true [x67, x68]) fun x69 =>
  bndV (rExt 0 x69) fun x70 =>
  bndV (rExt 1 x69) fun x71 =>
  bndN (rAlloc [(.int .i64 (.ofNat (nat_lit 0))), (.int .i64 (.ofNat (nat_lit 0))), (.int .i64 (.ofNat (nat_lit 0))), (.int .i64 (.ofNat (nat_lit 0))), (.int .i64 (.ofNat (nat_lit 0))), (.int .i64 (.ofNat (nat_lit 0))), (.int .i64 (.ofNat (nat_lit 0))), (.int .i64 (.ofNat (nat_lit 0))), (.str (sb [])), (.str (sb [])), (.str (sb [])), (.str (sb [])), (.int .i64 (.ofNat (nat_lit 0))), (.int .i64 (.ofNat (nat_lit 0))), (.int .i64 (.ofNat (nat_lit 0))), (.int .i64 (.ofNat (nat_lit 0))), (.int .i64 (.ofNat (nat_lit 0))), (.int .i64 (.ofNat (nat_lit 0))), (.int .i64 (.ofNat (nat_lit 0))), (.int .i64 (.ofNat (nat_lit 0))), (.bool false)] []) h fun x15 h =>
  bndE (rSt h 21 x15 x70) h fun _ h =>
  bndV (rNot x71) fun x73 =>
  (f308_0 rc x5 x13 x14 x19 x7_1 x73 h))
  (some ⟨0, [x7_1], h⟩)
noncomputable def f308_2 (rc : List V → HT → Option J) (x0 : V) (x5 : V) (x19 : V) (x41 : V) (x47 : V) (x50 : V) (x7_1 : V) (h : HT) : Option J := bndV (rFa 0 x50) fun x51 =>
  bndV (rIaA 7 1 x51 x41) fun x52 =>
  bndV (rLd h x52) fun x53 =>
  bndV (rAdd x53 (.int .i64 (.ofNat (nat_lit 1)))) fun x54 =>
  bndJ (loopF (fun rc vs h => unc2 vs fun x7_1 x13 =>
  bndV (rLeq x13 x47) fun x57 =>
  (f308_1 rc x0 x5 x13 x19 x41 x57 x7_1 h)) 1000000 [x7_1, x54] h)
  fun j vs h => nsw j (unc1 vs fun x7_1 =>
  bndV (rAdd x41 (.int .i64 (.ofNat (nat_lit 1)))) fun x82 =>
  rc [x7_1, x82] h)
  fun j => unc1 vs fun x4 =>
  some ⟨1, [x4], h⟩
noncomputable def f308_3 (rc : List V → HT → Option J) (x0 : V) (x5 : V) (x7 : V) (x8 : V) (x9 : V) (x10 : V) (x19 : V) (h : HT) : Option J := bndJ (loopF (fun rc vs h => unc2 vs fun x7_1 x41 =>
  bndV (rLss x41 (.int .i64 (.ofNat (nat_lit 7)))) fun x42 =>
  tstv x42 (bndV (rLdN h 2 x9) fun x44 =>
  bndV (rLdN h 21 x10) fun x45 =>
  bndC (f348 [x44, x45, x41] h) fun x47 h =>
  bndV (rNilc x0) fun x50 =>
  (f308_2 rc x0 x5 x19 x41 x47 x50 x7_1 h))
  (some ⟨0, [x7_1], h⟩)) 1000000 [x7, (.int .i64 (.ofNat (nat_lit 0)))] h)
  fun j vs h => nsw j (unc1 vs fun x7_1 =>
  bndV (rAdd x8 (.int .i64 (.ofNat (nat_lit 1)))) fun x27 =>
  rc [x7_1, x27] h)
  fun j => unc1 vs fun x4 =>
  some ⟨1, [x4], h⟩
noncomputable def f308_4 (rc : List V → HT → Option J) (x0 : V) (x5 : V) (x7 : V) (x8 : V) (x19 : V) (x29 : V) (h : HT) : Option J := tstv x29 (bndV (rBld [(.int .i64 (.ofNat (nat_lit 0))), (.int .i64 (.ofNat (nat_lit 0)))] [] []) fun x30 =>
  bndE (rSt h 2 x5 x30) h fun _ h =>
  some ⟨1, [(.slice none 0 true 0)], h⟩)
  (bndV (rIaS 2 x7 x8) fun x33 =>
  bndV (rLdN h 2 x33) fun x34 =>
  bndN (rAlloc [(.int .i64 (.ofNat (nat_lit 0))), (.int .i64 (.ofNat (nat_lit 0)))] []) h fun x9 h =>
  bndE (rSt h 2 x9 x34) h fun _ h =>
  bndV (rNilc x0) fun x36 =>
  bndV (rFa 7 x36) fun x37 =>
  bndV (rLd h x37) fun x38 =>
  bndV (rLdN h 2 x9) fun x39 =>
  bndV (kLkp h.heap true [.i, .i] (.agg [(.int .i64 (.ofNat (nat_lit 0))), (.int .i64 (.ofNat (nat_lit 0))), (.int .i64 (.ofNat (nat_lit 0))), (.int .i64 (.ofNat (nat_lit 0))), (.int .i64 (.ofNat (nat_lit 0))), (.int .i64 (.ofNat (nat_lit 0))), (.int .i64 (.ofNat (nat_lit 0))), (.int .i64 (.ofNat (nat_lit 0))), (.str (sb [])), (.str (sb [])), (.str (sb [])), (.str (sb [])), (.int .i64 (.ofNat (nat_lit 0))), (.int .i64 (.ofNat (nat_lit 0))), (.int .i64 (.ofNat (nat_lit 0))), (.int .i64 (.ofNat (nat_lit 0))), (.int .i64 (.ofNat (nat_lit 0))), (.int .i64 (.ofNat (nat_lit 0))), (.int .i64 (.ofNat (nat_lit 0))), (.int .i64 (.ofNat (nat_lit 0))), (.bool false)]) false [x38, x39]) fun x40 =>
  bndN (rAlloc [(.int .i64 (.ofNat (nat_lit 0))), (.int .i64 (.ofNat (nat_lit 0))), (.int .i64 (.ofNat (nat_lit 0))), (.int .i64 (.ofNat (nat_lit 0))), (.int .i64 (.ofNat (nat_lit 0))), (.int .i64 (.ofNat (nat_lit 0))), (.int .i64 (.ofNat (nat_lit 0))), (.int .i64 (.ofNat (nat_lit 0))), (.str (sb [])), (.str (sb [])), (.str (sb [])), (.str (sb [])), (.int .i64 (.ofNat (nat_lit 0))), (.int .i64 (.ofNat (nat_lit 0))), (.int .i64 (.ofNat (nat_lit 0))), (.int .i64 (.ofNat (nat_lit 0))), (.int .i64 (.ofNat (nat_lit 0))), (.int .i64 (.ofNat (nat_lit 0))), (.int .i64 (.ofNat (nat_lit 0))), (.int .i64 (.ofNat (nat_lit 0))), (.bool false)] []) h fun x10 h =>
  bndE (rSt h 21 x10 x40) h fun _ h =>
  (f308_3 rc x0 x5 x7 x8 x9 x10 x19 h))
noncomputable def f308_5 (x0 : V) (x5 : V) (x19 : V) (x21 : V) (h : HT) : Option J := bndJ (loopF (fun rc vs h => unc2 vs fun x7 x8 =>
  bndV (rLenS x7) fun x24 =>
  bndV (rLss x8 x24) fun x25 =>
  tstv x25 (bndV (rEql x8 (.int .i64 (.ofNat (nat_lit 512)))) fun x29 =>
  (f308_4 rc x0 x5 x7 x8 x19 x29 h))
  (some ⟨0, [x7], h⟩)) 1000000 [x21, (.int .i64 (.ofNat (nat_lit 0)))] h)
  fun j vs h => nsw j (unc1 vs fun x7 =>
  bndV (rBld [(.int .i64 (.ofNat (nat_lit 0))), (.int .i64 (.ofNat (nat_lit 0)))] [] []) fun x84 =>
  bndE (rSt h 2 x5 x84) h fun _ h =>
  bndV (qLd h (some 2) [x5]) fun x900000 =>
  ret1 (.tuple [x7, x900000]) h)
  fun j => unc1 vs fun x4 =>
  bndV (qLd h (some 2) [x5]) fun x900000 =>
  ret1 (.tuple [x4, x900000]) h
noncomputable def f308 (vs : List V) (h : HT) : Option J := unc2 vs fun x0 x1 =>
  bndN (rBox x1) h fun x3 h =>
  bndN (rAlloc [(.int .i64 (.ofNat (nat_lit 0))), (.int .i64 (.ofNat (nat_lit 0)))] []) h fun x5 h =>
  bndV (rLdN h 2 x3) fun x17 =>
  bndN (rBsl 2 1 [(.int .i64 (.ofNat (nat_lit 0))), (.int .i64 (.ofNat (nat_lit 0)))] [(0, 2)] [x17]) h fun x18 h =>
  bndC (f305 [x18] h) fun x19 h =>
  bndV (rLdN h 2 x3) fun x20 =>
  bndN (rBsl 2 1 [(.int .i64 (.ofNat (nat_lit 0))), (.int .i64 (.ofNat (nat_lit 0)))] [(0, 2)] [x20]) h fun x21 h =>
  (f308_5 x0 x5 x19 x21 h)

/- slices.insertionSortCmpFunc[concord/api.Inst] -/
noncomputable def l359 : List (Nat × (List V → HT → Option J)) := []
noncomputable def t359 : Fns := tab l359
noncomputable def f359_0 (rc : List V → HT → Option J) (x0 : V) (x9 : V) (x20 : V) (x33 : V) (h : HT) : Option J := bndV (rPick x20 x33 (.bool false)) fun x34 =>
  tstv x34 (bndV (rSub x9 (.int .i64 (.ofNat (nat_lit 1)))) fun x41 =>
  bndV (rSub x9 (.int .i64 (.ofNat (nat_lit 1)))) fun x44 =>
  bndV (rIaS 2 x0 x44) fun x45 =>
  bndV (rLdN h 2 x45) fun x46 =>
  bndV (rIaS 2 x0 x9) fun x49 =>
  bndV (rLdN h 2 x49) fun x50 =>
  bndV (rIaS 2 x0 x9) fun x51 =>
  bndE (rSt h 2 x51 x46) h fun _ h =>
  bndV (rIaS 2 x0 x41) fun x52 =>
  bndE (rSt h 2 x52 x50) h fun _ h =>
  bndV (rSub x9 (.int .i64 (.ofNat (nat_lit 1)))) fun x36 =>
  rc [x36] h)
  (some ⟨0, [], h⟩)
noncomputable def f359_1 (rc : List V → HT → Option J) (x0 : V) (x1 : V) (x3 : V) (vs : List V) (h : HT) : Option J := unc1 vs fun x9 =>
  bndV (rGtr x9 x1) fun x20 =>
  bndC (gsel x20 true (retV (kMov [x3]) h) h) fun x22 h =>
  bndC (gsel x20 true (retV (kMov [x0]) h) h) fun x23 h =>
  bndC (gsel x20 true (retV (kMov [x9]) h) h) fun x24 h =>
  bndC (gsel x20 true (retV (rIaS 2 x23 x24) h) h) fun x25 h =>
  bndC (gsel x20 true (retV (rLdN h 2 x25) h) h) fun x26 h =>
  bndC (gsel x20 true (retV (kMov [x0]) h) h) fun x27 h =>
  bndC (gsel x20 true (retV (kMov [x9]) h) h) fun x28 h =>
  bndC (gsel x20 true (retV (rSub x28 (.int .i64 (.ofNat (nat_lit 1)))) h) h) fun x29 h =>
  bndC (gsel x20 true (retV (rIaS 2 x27 x29) h) h) fun x30 h =>
  bndC (gsel x20 true (retV (rLdN h 2 x30) h) h) fun x31 h =>
  bndC (gsel x20 true (callvT t359 [x22, x26, x31] h) h) fun x32 h =>
  bndC (gsel x20 true (retV (rLss x32 (.int .i64 (.ofNat (nat_lit 0)))) h) h) fun x33 h =>
  (f359_0 rc x0 x9 x20 x33 h)
noncomputable def f359 (vs : List V) (h : HT) : Option J := unc4 vs fun x0 x1 x2 x3 vs =>
  bndV (rAdd x1 (.int .i64 (.ofNat (nat_lit 1)))) fun x11 =>
  bndJ (loopF (fun rc vs h => unc1 vs fun x8 =>
  bndV (rLss x8 x2) fun x14 =>
  tstv x14 (bndJ (loopF (fun rc vs h => (f359_1 rc x0 x1 x3 vs h)) 1000000 [x8] h)
  fun j vs h => bndV (rAdd x8 (.int .i64 (.ofNat (nat_lit 1)))) fun x16 =>
  rc [x16] h)
  (some ⟨0, [], h⟩)) 1000000 [x11] h)
  fun j vs h => ret1 (.tuple []) h

/- slices.pdqsortCmpFunc[concord/api.Inst] -/
noncomputable def l323 : List (Nat × (List V → HT → Option J)) := [(359, f359)]
noncomputable def t323 : Fns := tab l323
noncomputable def f323_0 (rc : List V → HT → Option J) (x0 : V) (x1 : V) (x2 : V) (x4 : V) (x23 : V) (x3_1 : V) (x111 : V) (h : HT) : Option J := bndV (rExt 0 x111) fun x112 =>
  bndV (rExt 1 x111) fun x113 =>
  bndV (rSub x112 x1) fun x117 =>
  bndV (rSub x2 x112) fun x120 =>
  bndV (qBin .quo [x23, (.int .i64 (.ofNat (nat_lit 8)))]) fun x122 =>
  bndV (rLss x117 x120) fun x125 =>
  tstv x125 (bndV (rGeq x117 x122) fun x128 =>
  bndC (noF [x0, x1, x112, x3_1, x4] h) fun x134 h =>
  bndV (rAdd x112 (.int .i64 (.ofNat (nat_lit 1)))) fun x136 =>
  rc [x136, x2, x3_1, x128, x113] h)
  (bndV (rGeq x120 x122) fun x139 =>
  bndV (rAdd x112 (.int .i64 (.ofNat (nat_lit 1)))) fun x142 =>
  bndC (noF [x0, x142, x2, x3_1, x4] h) fun x146 h =>
  rc [x1, x112, x3_1, x139, x113] h)
noncomputable def f323_1 (rc : List V → HT → Option J) (x0 : V) (x1 : V) (x2 : V) (x4 : V) (x10 : V) (x11 : V) (x13 : V) (x23 : V) (x3_1 : V) (x82 : V) (x84 : V) (x85 : V) (x87 : V) (h : HT) : Option J := bndC (gsel x82 true (retV (rIaS 2 x85 x87) h) h) fun x88 h =>
  bndC (gsel x82 true (retV (rLdN h 2 x88) h) h) fun x89 h =>
  bndC (gsel x82 true (retV (kMov [x0]) h) h) fun x90 h =>
  bndC (gsel x82 true (retV (kMov [x13]) h) h) fun x91 h =>
  bndC (gsel x82 true (retV (rIaS 2 x90 x91) h) h) fun x92 h =>
  bndC (gsel x82 true (retV (rLdN h 2 x92) h) h) fun x93 h =>
  bndC (gsel x82 true (callvT t323 [x84, x89, x93] h) h) fun x94 h =>
  bndC (gsel x82 true (retV (rLss x94 (.int .i64 (.ofNat (nat_lit 0)))) h) h) fun x95 h =>
  bndC (gsel x82 true (retV (rNot x95) h) h) fun x96 h =>
  bndV (rPick x82 x96 (.bool false)) fun x97 =>
  tstv x97 (bndC (noF [x0, x1, x2, x13, x4] h) fun x103 h =>
  rc [x103, x2, x3_1, x10, x11] h)
  (bndC (noF [x0, x1, x2, x13, x4] h) fun x111 h =>
  (f323_0 rc x0 x1 x2 x4 x23 x3_1 x111 h))
noncomputable def f323_2 (rc : List V → HT → Option J) (x0 : V) (x1 : V) (x2 : V) (x4 : V) (x10 : V) (x11 : V) (x13 : V) (x23 : V) (x3_1 : V) (x75 : V) (h : HT) : Option J := bndJ (tstv x75 (bndC (noF [x0, x1, x2, x4] h) fun x80 h =>
  tstv x80 (some ⟨0, [], h⟩)
  (some ⟨1, [], h⟩))
  (some ⟨1, [], h⟩))
  fun j vs h => nsw j (some ⟨0, [], h⟩)
  fun j => bndV (rGtr x1 (.int .i64 (.ofNat (nat_lit 0)))) fun x82 =>
  bndC (gsel x82 true (retV (kMov [x4]) h) h) fun x84 h =>
  bndC (gsel x82 true (retV (kMov [x0]) h) h) fun x85 h =>
  bndC (gsel x82 true (retV (kMov [x1]) h) h) fun x86 h =>
  bndC (gsel x82 true (retV (rSub x86 (.int .i64 (.ofNat (nat_lit 1)))) h) h) fun x87 h =>
  (f323_1 rc x0 x1 x2 x4 x10 x11 x13 x23 x3_1 x82 x84 x85 x87 h)
noncomputable def f323_3 (rc : List V → HT → Option J) (x0 : V) (x1 : V) (x2 : V) (x4 : V) (x10 : V) (x11 : V) (x23 : V) (x3_1 : V) (x53 : V) (x54 : V) (x56 : V) (h : HT) : Option J := bndJ (tstv x56 (bndC (noF [x0, x1, x2, x4] h) fun x61 h =>
  bndV (rSub x2 (.int .i64 (.ofNat (nat_lit 1)))) fun x63 =>
  bndV (rSub x53 x1) fun x66 =>
  bndV (rSub x63 x66) fun x67 =>
  some ⟨0, [x67, (.int .i64 (.ofNat (nat_lit 1)))], h⟩)
  (some ⟨0, [x53, x54], h⟩))
  fun j vs h => unc2 vs fun x13 x14 =>
  bndC (gsel x10 true (retV (kMov [x11]) h) h) fun x70 h =>
  bndV (rPick x10 x70 (.bool false)) fun x71 =>
  bndC (gsel x71 true (retV (kMov [x14]) h) h) fun x73 h =>
  bndC (gsel x71 true (retV (rEql x73 (.int .i64 (.ofNat (nat_lit 1)))) h) h) fun x74 h =>
  bndV (rPick x71 x74 (.bool false)) fun x75 =>
  (f323_2 rc x0 x1 x2 x4 x10 x11 x13 x23 x3_1 x75 h)
noncomputable def f323_4 (rc : List V → HT → Option J) (x0 : V) (x1 : V) (x2 : V) (x3 : V) (x4 : V) (x10 : V) (x11 : V) (x23 : V) (x32 : V) (h : HT) : Option J := tstv x32 (bndC (noF [x0, x1, x2, x4] h) fun x37 h =>
  some ⟨0, [], h⟩)
  (bndV (rNot x10) fun x39 =>
  bndJ (tstv x39 (bndC (noF [x0, x1, x2, x4] h) fun x44 h =>
  bndV (rSub x3 (.int .i64 (.ofNat (nat_lit 1)))) fun x46 =>
  some ⟨0, [x46], h⟩)
  (some ⟨0, [x3], h⟩))
  fun j vs h => unc1 vs fun x3_1 =>
  bndC (noF [x0, x1, x2, x4] h) fun x52 h =>
  bndV (rExt 0 x52) fun x53 =>
  bndV (rExt 1 x52) fun x54 =>
  bndV (rEql x54 (.int .i64 (.ofNat (nat_lit 2)))) fun x56 =>
  (f323_3 rc x0 x1 x2 x4 x10 x11 x23 x3_1 x53 x54 x56 h))
noncomputable def f323 (vs : List V) (h : HT) : Option J := unc4 vs fun x0 x1 x2 x3 vs =>
  unc1 vs fun x4 =>
  bndJ (loopF (fun rc vs h => unc4 vs fun x1 x2 x3 x10 vs =>
  unc1 vs fun x11 =>
  bndV (rSub x2 x1) fun x23 =>
  bndV (rLeq x23 (.int .i64 (.ofNat (nat_lit 12)))) fun x25 =>
  tstv x25 (bndC (f359 [x0, x1, x2, x4] h) fun x30 h =>
  some ⟨0, [], h⟩)
  (bndV (rEql x3 (.int .i64 (.ofNat (nat_lit 0)))) fun x32 =>
  (f323_4 rc x0 x1 x2 x3 x4 x10 x11 x23 x32 h))) 1000000 [x1, x2, x3, (.bool true), (.bool true)] h)
  fun j vs h => ret1 (.tuple []) h

/- math/bits.Len64 -/
noncomputable def l332 : List (Nat × (List V → HT → Option J)) := []
noncomputable def t332 : Fns := tab l332
noncomputable def f332_0 (x0_1 : V) (x2 : V) (x8 : V) (h : HT) : Option J := bndJ (tstv x8 (bndV (rShr x0_1 (.int .u64 (.ofNat (nat_lit 16)))) fun x10 =>
  bndV (rAdd x2 (.int .i64 (.ofNat (nat_lit 16)))) fun x12 =>
  some ⟨0, [x10, x12], h⟩)
  (some ⟨0, [x0_1, x2], h⟩))
  fun j vs h => unc2 vs fun x0_2 x2 =>
  bndV (rGeq x0_2 (.int .u64 (.ofNat (nat_lit 256)))) fun x14 =>
  bndJ (tstv x14 (bndV (rShr x0_2 (.int .u64 (.ofNat (nat_lit 8)))) fun x16 =>
  bndV (rAdd x2 (.int .i64 (.ofNat (nat_lit 8)))) fun x18 =>
  some ⟨0, [x16, x18], h⟩)
  (some ⟨0, [x0_2, x2], h⟩))
  fun j vs h => unc2 vs fun x0_3 x2 =>
  bndV (rCvI .u8 x0_3) fun x21 =>
  bndV (kIxStr [(.str (sb [0, 1, 2, 2, 3, 3, 3, 3, 4, 4, 4, 4, 4, 4, 4, 4, 5, 5, 5, 5, 5, 5, 5, 5, 5, 5, 5, 5, 5, 5, 5, 5, 6, 6, 6, 6, 6, 6, 6, 6, 6, 6, 6, 6, 6, 6, 6, 6, 6, 6, 6, 6, 6, 6, 6, 6, 6, 6, 6, 6, 6, 6, 6, 6, 7, 7, 7, 7, 7, 7, 7, 7, 7, 7, 7, 7, 7, 7, 7, 7, 7, 7, 7, 7, 7, 7, 7, 7, 7, 7, 7, 7, 7, 7, 7, 7, 7, 7, 7, 7, 7, 7, 7, 7, 7, 7, 7, 7, 7, 7, 7, 7, 7, 7, 7, 7, 7, 7, 7, 7, 7, 7, 7, 7, 7, 7, 7, 7, 8, 8, 8, 8, 8, 8, 8, 8, 8, 8, 8, 8, 8, 8, 8, 8, 8, 8, 8, 8, 8, 8, 8, 8, 8, 8, 8, 8, 8, 8, 8, 8, 8, 8, 8, 8, 8, 8, 8, 8, 8, 8, 8, 8, 8, 8, 8, 8, 8, 8, 8, 8, 8, 8, 8, 8, 8, 8, 8, 8, 8, 8, 8, 8, 8, 8, 8, 8, 8, 8, 8, 8, 8, 8, 8, 8, 8, 8, 8, 8, 8, 8, 8, 8, 8, 8, 8, 8, 8, 8, 8, 8, 8, 8, 8, 8, 8, 8, 8, 8, 8, 8, 8, 8, 8, 8, 8, 8, 8, 8, 8, 8, 8, 8, 8, 8, 8, 8, 8, 8, 8, 8, 8, 8, 8, 8, 8, 8])), x21]) fun x22 =>
  bndV (rCvI .i64 x22) fun x23 =>
  bndV (rAdd x2 x23) fun x24 =>
  ret1 x24 h
noncomputable def f332 (vs : List V) (h : HT) : Option J := unc1 vs fun x0 =>
  bndV (rGeq x0 (.int .u64 (.ofNat (nat_lit 4294967296)))) fun x4 =>
  bndJ (tstv x4 (bndV (rShr x0 (.int .u64 (.ofNat (nat_lit 32)))) fun x6 =>
  some ⟨0, [x6, (.int .i64 (.ofNat (nat_lit 32)))], h⟩)
  (some ⟨0, [x0, (.int .i64 (.ofNat (nat_lit 0)))], h⟩))
  fun j vs h => unc2 vs fun x0_1 x2 =>
  bndV (rGeq x0_1 (.int .u64 (.ofNat (nat_lit 65536)))) fun x8 =>
  (f332_0 x0_1 x2 x8 h)

/- math/bits.Len -/
noncomputable def l324 : List (Nat × (List V → HT → Option J)) := [(332, f332)]
noncomputable def t324 : Fns := tab l324

noncomputable def f324 (vs : List V) (h : HT) : Option J := unc1 vs fun x0 =>
  tstv (.bool false) (bndV (rCvI .u32 x0) fun x4 =>
  bndC (noF [x4] h) fun x5 h =>
  ret1 x5 h)
  (bndC (f332 [x0] h) fun x7 h =>
  ret1 x7 h)

/- slices.SortFunc[[]concord/api.Inst,concord/api.Inst] -/
noncomputable def l270 : List (Nat × (List V → HT → Option J)) := [(323, f323), (324, f324)]
noncomputable def t270 : Fns := tab l270

noncomputable def f270 (vs : List V) (h : HT) : Option J := unc2 vs fun x0 x1 =>
  bndV (rLenS x0) fun x6 =>
  bndV (rCvI .u64 x6) fun x10 =>
  bndC (f324 [x10] h) fun x11 h =>
  bndC (f323 [x0, (.int .i64 (.ofNat (nat_lit 0))), x6, x11, x1] h) fun x13 h =>
  ret1 (.tuple []) h

/- (*concord/graph.walk).come -/
noncomputable def l392 : List (Nat × (List V → HT → Option J)) := []
noncomputable def t392 : Fns := tab l392
noncomputable def f392_0 (x0 : V) (x1 : V) (x4 : V) (x25 : V) (x34 : V) (x36 : V) (h : HT) : Option J := bndE (rSt h 1 x36 x34) h fun _ h =>
  bndV (rIaS 1 x25 x1) fun x37 =>
  bndE (rSt h 1 x37 (.bool true)) h fun _ h =>
  bndV (rNilc x0) fun x40 =>
  bndV (rFa 4 x40) fun x41 =>
  bndV (rLd h x41) fun x42 =>
  bndN (rBsl 1 1 [(.int .i64 (.ofNat (nat_lit 0)))] [(0, 1)] [x1]) h fun x44 h =>
  bndE (dApp h 1 8 [x42, x44]) h fun x45 h =>
  bndV (rNilc x0) fun x46 =>
  bndV (rFa 4 x46) fun x47 =>
  bndE (rSt h 1 x47 x45) h fun _ h =>
  bndV (rBld [(.int .i64 (.ofNat (nat_lit 0))), (.int .i64 (.ofNat (nat_lit 0)))] [(0, 1), (1, 1)] [x1, (.int .i64 (.ofNat (nat_lit 0)))]) fun x49 =>
  bndE (rSt h 2 x4 x49) h fun _ h =>
  bndV (qLd h (some 2) [x4]) fun x900000 =>
  ret1 x900000 h
noncomputable def f392_1 (x0 : V) (x1 : V) (x4 : V) (x15 : V) (x18 : V) (h : HT) : Option J := bndV (rFa 2 x18) fun x19 =>
  bndV (rLd h x19) fun x20 =>
  bndV (rNilc x0) fun x23 =>
  bndV (rFa 3 x23) fun x24 =>
  bndV (rLd h x24) fun x25 =>
  bndV (rNilc x0) fun x28 =>
  bndV (rFa 7 x28) fun x29 =>
  bndV (rLd h x29) fun x30 =>
  bndV (rNilc x0) fun x32 =>
  bndV (rFa 7 x32) fun x33 =>
  bndV (rLd h x33) fun x34 =>
  bndV (rIaS 1 x15 x1) fun x35 =>
  bndE (rSt h 1 x35 x30) h fun _ h =>
  bndV (rIaS 1 x20 x1) fun x36 =>
  (f392_0 x0 x1 x4 x25 x34 x36 h)
noncomputable def f392 (vs : List V) (h : HT) : Option J := unc2 vs fun x0 x1 =>
  bndN (rAlloc [(.int .i64 (.ofNat (nat_lit 0))), (.int .i64 (.ofNat (nat_lit 0)))] []) h fun x4 h =>
  bndV (rNilc x0) fun x6 =>
  bndV (rFa 7 x6) fun x7 =>
  bndV (rLd h x7) fun x8 =>
  bndV (rAdd x8 (.int .i64 (.ofNat (nat_lit 1)))) fun x9 =>
  bndV (rNilc x0) fun x10 =>
  bndV (rFa 7 x10) fun x11 =>
  bndE (rSt h 1 x11 x9) h fun _ h =>
  bndV (rNilc x0) fun x13 =>
  bndV (rFa 1 x13) fun x14 =>
  bndV (rLd h x14) fun x15 =>
  bndV (rNilc x0) fun x18 =>
  (f392_1 x0 x1 x4 x15 x18 h)

/- (*concord/graph.walk).leave -/
noncomputable def l393 : List (Nat × (List V → HT → Option J)) := []
noncomputable def t393 : Fns := tab l393
noncomputable def f393_0 (rc : List V → HT → Option J) (x0 : V) (x1 : V) (x31 : V) (x48 : V) (h : HT) : Option J := bndV (rLd h x48) fun x49 =>
  bndV (rNilc x0) fun x52 =>
  bndV (rFa 5 x52) fun x53 =>
  bndV (rLd h x53) fun x54 =>
  bndV (rNilc x0) fun x57 =>
  bndV (rFa 6 x57) fun x58 =>
  bndV (rLd h x58) fun x59 =>
  bndV (rIaS 1 x49 x31) fun x60 =>
  bndE (rSt h 1 x60 (.bool false)) h fun _ h =>
  bndV (rIaS 1 x54 x31) fun x61 =>
  bndE (rSt h 1 x61 x59) h fun _ h =>
  bndV (rEql x31 x1) fun x64 =>
  tstv x64 (some ⟨0, [], h⟩)
  (rc [] h)
noncomputable def f393_1 (rc : List V → HT → Option J) (x0 : V) (x1 : V) (x31 : V) (h : HT) : Option J := bndV (rNilc x0) fun x34 =>
  bndV (rFa 4 x34) fun x35 =>
  bndV (rLd h x35) fun x36 =>
  bndV (rNilc x0) fun x38 =>
  bndV (rFa 4 x38) fun x39 =>
  bndV (rLd h x39) fun x40 =>
  bndV (rLenS x40) fun x41 =>
  bndV (rSub x41 (.int .i64 (.ofNat (nat_lit 1)))) fun x42 =>
  bndV (kSlS 1 false true [x36, x42]) fun x43 =>
  bndV (rNilc x0) fun x44 =>
  bndV (rFa 4 x44) fun x45 =>
  bndE (rSt h 1 x45 x43) h fun _ h =>
  bndV (rNilc x0) fun x47 =>
  bndV (rFa 3 x47) fun x48 =>
  (f393_0 rc x0 x1 x31 x48 h)
noncomputable def f393_2 (x0 : V) (x1 : V) (h : HT) : Option J := bndJ (loopF (fun rc vs h => bndV (rNilc x0) fun x21 =>
  bndV (rFa 4 x21) fun x22 =>
  bndV (rLd h x22) fun x23 =>
  bndV (rNilc x0) fun x25 =>
  bndV (rFa 4 x25) fun x26 =>
  bndV (rLd h x26) fun x27 =>
  bndV (rLenS x27) fun x28 =>
  bndV (rSub x28 (.int .i64 (.ofNat (nat_lit 1)))) fun x29 =>
  bndV (rIaS 1 x23 x29) fun x30 =>
  bndV (rLd h x30) fun x31 =>
  (f393_1 rc x0 x1 x31 h)) 1000000 [] h)
  fun j vs h => bndV (rNilc x0) fun x66 =>
  bndV (rFa 6 x66) fun x67 =>
  bndV (rLd h x67) fun x68 =>
  bndV (rAdd x68 (.int .i64 (.ofNat (nat_lit 1)))) fun x69 =>
  bndV (rNilc x0) fun x70 =>
  bndV (rFa 6 x70) fun x71 =>
  bndE (rSt h 1 x71 x69) h fun _ h =>
  ret1 (.tuple []) h
noncomputable def f393 (vs : List V) (h : HT) : Option J := unc2 vs fun x0 x1 =>
  bndV (rNilc x0) fun x6 =>
  bndV (rFa 2 x6) fun x7 =>
  bndV (rLd h x7) fun x8 =>
  bndV (rIaS 1 x8 x1) fun x10 =>
  bndV (rLd h x10) fun x11 =>
  bndV (rNilc x0) fun x13 =>
  bndV (rFa 1 x13) fun x14 =>
  bndV (rLd h x14) fun x15 =>
  bndV (rIaS 1 x15 x1) fun x17 =>
  bndV (rLd h x17) fun x18 =>
  bndV (rNeq x11 x18) fun x19 =>
  tstv x19 (ret1 (.tuple []) h)
  ((f393_2 x0 x1 h))

/- (*concord/graph.walk).from -/
noncomputable def l377 : List (Nat × (List V → HT → Option J)) := [(392, f392), (393, f393)]
noncomputable def t377 : Fns := tab l377
noncomputable def f377_0 (rc : List V → HT → Option J) (x0 : V) (x40 : V) (x48 : V) (x58 : V) (x61 : V) (h : HT) : Option J := bndV (rLd h x61) fun x62 =>
  bndV (rNilc x0) fun x65 =>
  bndV (rFa 2 x65) fun x66 =>
  bndV (rLd h x66) fun x67 =>
  bndV (rIaS 1 x67 x58) fun x69 =>
  bndV (rLd h x69) fun x70 =>
  bndV (rNilc x0) fun x72 =>
  bndV (rFa 2 x72) fun x73 =>
  bndV (rLd h x73) fun x74 =>
  bndV (rIaS 1 x74 x40) fun x76 =>
  bndV (rLd h x76) fun x77 =>
  bndV (rMin x70 x77) fun x78 =>
  bndV (rIaS 1 x62 x58) fun x79 =>
  bndE (rSt h 1 x79 x78) h fun _ h =>
  rc [x48] h
noncomputable def f377_1 (rc : List V → HT → Option J) (x0 : V) (x4 : V) (x40 : V) (h : HT) : Option J := bndV (rLenS x4) fun x46 =>
  bndV (rSub x46 (.int .i64 (.ofNat (nat_lit 1)))) fun x47 =>
  bndV (kSlS 2 false true [x4, x47]) fun x48 =>
  bndV (rLenS x48) fun x50 =>
  bndV (rGtr x50 (.int .i64 (.ofNat (nat_lit 0)))) fun x51 =>
  tstv x51 (bndV (rLenS x48) fun x54 =>
  bndV (rSub x54 (.int .i64 (.ofNat (nat_lit 1)))) fun x55 =>
  bndV (rIaS 2 x48 x55) fun x56 =>
  bndV (rFa 0 x56) fun x57 =>
  bndV (rLd h x57) fun x58 =>
  bndV (rNilc x0) fun x60 =>
  bndV (rFa 2 x60) fun x61 =>
  (f377_0 rc x0 x40 x48 x58 x61 h))
  (rc [x48] h)
noncomputable def f377_2 (rc : List V → HT → Option J) (x0 : V) (x4 : V) (x20 : V) (x95 : V) (x141 : V) (x145 : V) (x148 : V) (h : HT) : Option J := bndV (rLd h x148) fun x149 =>
  bndV (rNilc x20) fun x151 =>
  bndV (rFa 0 x151) fun x152 =>
  bndV (rLd h x152) fun x153 =>
  bndV (rIaS 1 x149 x153) fun x154 =>
  bndV (rLd h x154) fun x155 =>
  bndV (rNilc x0) fun x157 =>
  bndV (rFa 1 x157) fun x158 =>
  bndV (rLd h x158) fun x159 =>
  bndV (rIaS 1 x159 x95) fun x161 =>
  bndV (rLd h x161) fun x162 =>
  bndV (rMin x155 x162) fun x163 =>
  bndV (rIaS 1 x141 x145) fun x164 =>
  bndE (rSt h 1 x164 x163) h fun _ h =>
  rc [x4] h
noncomputable def f377_3 (rc : List V → HT → Option J) (x0 : V) (x4 : V) (x20 : V) (x95 : V) (x132 : V) (h : HT) : Option J := bndV (rFa 3 x132) fun x133 =>
  bndV (rLd h x133) fun x134 =>
  bndV (rIaS 1 x134 x95) fun x136 =>
  bndV (rLd h x136) fun x137 =>
  tstv x137 (bndV (rNilc x0) fun x139 =>
  bndV (rFa 2 x139) fun x140 =>
  bndV (rLd h x140) fun x141 =>
  bndV (rNilc x20) fun x143 =>
  bndV (rFa 0 x143) fun x144 =>
  bndV (rLd h x144) fun x145 =>
  bndV (rNilc x0) fun x147 =>
  bndV (rFa 2 x147) fun x148 =>
  (f377_2 rc x0 x4 x20 x95 x141 x145 x148 h))
  (rc [x4] h)
noncomputable def f377_4 (rc : List V → HT → Option J) (x0 : V) (x4 : V) (x20 : V) (x95 : V) (x114 : V) (h : HT) : Option J := tstv x114 (rc [x4] h)
  (bndV (rNilc x0) fun x117 =>
  bndV (rFa 1 x117) fun x118 =>
  bndV (rLd h x118) fun x119 =>
  bndV (rIaS 1 x119 x95) fun x121 =>
  bndV (rLd h x121) fun x122 =>
  bndV (rEql x122 (.int .i64 (.ofNat (nat_lit 0)))) fun x123 =>
  tstv x123 (bndC (f392 [x0, x95] h) fun x127 h =>
  bndN (rBsl 2 1 [(.int .i64 (.ofNat (nat_lit 0))), (.int .i64 (.ofNat (nat_lit 0)))] [(0, 2)] [x127]) h fun x128 h =>
  bndE (dApp h 2 16 [x4, x128]) h fun x129 h =>
  rc [x129] h)
  (bndV (rNilc x0) fun x132 =>
  (f377_3 rc x0 x4 x20 x95 x132 h)))
noncomputable def f377_5 (rc : List V → HT → Option J) (x0 : V) (x4 : V) (x20 : V) (x95 : V) (x98 : V) (h : HT) : Option J := bndV (rLd h x98) fun x99 =>
  bndV (rAdd x99 (.int .i64 (.ofNat (nat_lit 1)))) fun x100 =>
  bndV (rNilc x20) fun x101 =>
  bndV (rFa 1 x101) fun x102 =>
  bndE (rSt h 1 x102 x100) h fun _ h =>
  bndV (rLss x95 (.int .i64 (.ofNat (nat_lit 0)))) fun x105 =>
  bndC (gsel x105 false (retV (kMov [x95]) h) h) fun x107 h =>
  bndC (gsel x105 false (retV (kMov [x0]) h) h) fun x108 h =>
  bndC (gsel x105 false (retV (rNilc x108) h) h) fun x109 h =>
  bndC (gsel x105 false (retV (rFa 0 x109) h) h) fun x110 h =>
  bndC (gsel x105 false (retV (rLd h x110) h) h) fun x111 h =>
  bndC (gsel x105 false (retV (rLenS x111) h) h) fun x112 h =>
  bndC (gsel x105 false (retV (rGeq x107 x112) h) h) fun x113 h =>
  bndV (rPick x105 (.bool true) x113) fun x114 =>
  (f377_4 rc x0 x4 x20 x95 x114 h)
noncomputable def f377_6 (rc : List V → HT → Option J) (x0 : V) (x4 : V) (x20 : V) (x81 : V) (h : HT) : Option J := bndV (rFa 0 x81) fun x82 =>
  bndV (rLd h x82) fun x83 =>
  bndV (rNilc x20) fun x85 =>
  bndV (rFa 0 x85) fun x86 =>
  bndV (rLd h x86) fun x87 =>
  bndV (rIaS 1 x83 x87) fun x88 =>
  bndV (rLd h x88) fun x89 =>
  bndV (rNilc x20) fun x91 =>
  bndV (rFa 1 x91) fun x92 =>
  bndV (rLd h x92) fun x93 =>
  bndV (rIaS 1 x89 x93) fun x94 =>
  bndV (rLd h x94) fun x95 =>
  bndV (rNilc x20) fun x97 =>
  bndV (rFa 1 x97) fun x98 =>
  (f377_5 rc x0 x4 x20 x95 x98 h)
noncomputable def f377_7 (rc : List V → HT → Option J) (x0 : V) (x4 : V) (x20 : V) (x24 : V) (x28 : V) (h : HT) : Option J := bndV (rNilc x20) fun x30 =>
  bndV (rFa 0 x30) fun x31 =>
  bndV (rLd h x31) fun x32 =>
  bndV (rIaS 1 x28 x32) fun x33 =>
  bndV (rLd h x33) fun x34 =>
  bndV (rLenS x34) fun x35 =>
  bndV (rEql x24 x35) fun x36 =>
  tstv x36 (bndV (rNilc x20) fun x38 =>
  bndV (rFa 0 x38) fun x39 =>
  bndV (rLd h x39) fun x40 =>
  bndC (f393 [x0, x40] h) fun x43 h =>
  (f377_1 rc x0 x4 x40 h))
  (bndV (rNilc x0) fun x81 =>
  (f377_6 rc x0 x4 x20 x81 h))
noncomputable def f377_8 (rc : List V → HT → Option J) (x0 : V) (vs : List V) (h : HT) : Option J := unc1 vs fun x4 =>
  bndV (rLenS x4) fun x14 =>
  bndV (rGtr x14 (.int .i64 (.ofNat (nat_lit 0)))) fun x15 =>
  tstv x15 (bndV (rLenS x4) fun x18 =>
  bndV (rSub x18 (.int .i64 (.ofNat (nat_lit 1)))) fun x19 =>
  bndV (rIaS 2 x4 x19) fun x20 =>
  bndV (rNilc x20) fun x22 =>
  bndV (rFa 1 x22) fun x23 =>
  bndV (rLd h x23) fun x24 =>
  bndV (rNilc x0) fun x26 =>
  bndV (rFa 0 x26) fun x27 =>
  bndV (rLd h x27) fun x28 =>
  (f377_7 rc x0 x4 x20 x24 x28 h))
  (some ⟨0, [], h⟩)
noncomputable def f377 (vs : List V) (h : HT) : Option J := unc2 vs fun x0 x1 =>
  bndC (f392 [x0, x1] h) fun x11 h =>
  bndN (rBsl 2 1 [(.int .i64 (.ofNat (nat_lit 0))), (.int .i64 (.ofNat (nat_lit 0)))] [(0, 2)] [x11]) h fun x12 h =>
  bndJ (loopF (fun rc vs h => (f377_8 rc x0 vs h)) 1000000 [x12] h)
  fun j vs h => ret1 (.tuple []) h

/- concord/graph.order -/
noncomputable def l378 : List (Nat × (List V → HT → Option J)) := []
noncomputable def t378 : Fns := tab l378
noncomputable def f378_0 (x1 : V) (x24 : V) (x27 : V) (x37 : V) (x64 : V) (x65 : V) (h : HT) : Option J := bndE (rSt h 1 x65 x64) h fun _ h =>
  bndV (rIaS 1 x1 x37) fun x69 =>
  bndV (rLd h x69) fun x70 =>
  bndV (rIaS 1 x1 x37) fun x74 =>
  bndV (rLd h x74) fun x75 =>
  bndV (rIaS 1 x24 x75) fun x76 =>
  bndV (rLd h x76) fun x77 =>
  bndV (rIaS 1 x1 x27) fun x80 =>
  bndV (rLd h x80) fun x81 =>
  bndN (rBsl 1 1 [(.int .i64 (.ofNat (nat_lit 0)))] [(0, 1)] [x81]) h fun x82 h =>
  bndE (dApp h 1 8 [x77, x82]) h fun x83 h =>
  chk1 (sameE (rLd h x69) x70) (bndV (rIaS 1 x24 x70) fun x84 =>
  bndE (rSt h 1 x84 x83) h fun _ h =>
  some ⟨0, [], h⟩)
noncomputable def f378_1 (rc : List V → HT → Option J) (x1 : V) (x21 : V) (x24 : V) (x27 : V) (x34 : V) (x37 : V) (x45 : V) (x50 : V) (x53 : V) (h : HT) : Option J := bndC (gsel x45 true (retV (rLd h x53) h) h) fun x54 h =>
  bndC (gsel x45 true (retV (rNeq x50 x54) h) h) fun x55 h =>
  bndV (rPick x45 x55 (.bool false)) fun x56 =>
  bndJ (tstv x56 (bndV (rIaS 1 x1 x27) fun x60 =>
  bndV (rLd h x60) fun x61 =>
  bndV (rIaS 1 x21 x61) fun x62 =>
  bndV (rLd h x62) fun x63 =>
  bndV (rAdd x63 (.int .i64 (.ofNat (nat_lit 1)))) fun x64 =>
  bndV (rIaS 1 x21 x61) fun x65 =>
  (f378_0 x1 x24 x27 x37 x64 x65 h))
  (some ⟨0, [], h⟩))
  fun j vs h => bndV (rAdd x34 (.int .i64 (.ofNat (nat_lit 1)))) fun x85 =>
  rc [x85] h
noncomputable def f378_2 (rc : List V → HT → Option J) (x0 : V) (x1 : V) (x21 : V) (x24 : V) (x27 : V) (x34 : V) (x36 : V) (h : HT) : Option J := bndV (rLd h x36) fun x37 =>
  bndV (rGeq x37 (.int .i64 (.ofNat (nat_lit 0)))) fun x39 =>
  bndC (gsel x39 true (retV (kMov [x37]) h) h) fun x41 h =>
  bndC (gsel x39 true (retV (kMov [x0]) h) h) fun x42 h =>
  bndC (gsel x39 true (retV (rLenS x42) h) h) fun x43 h =>
  bndC (gsel x39 true (retV (rLss x41 x43) h) h) fun x44 h =>
  bndV (rPick x39 x44 (.bool false)) fun x45 =>
  bndC (gsel x45 true (retV (kMov [x1]) h) h) fun x47 h =>
  bndC (gsel x45 true (retV (kMov [x37]) h) h) fun x48 h =>
  bndC (gsel x45 true (retV (rIaS 1 x47 x48) h) h) fun x49 h =>
  bndC (gsel x45 true (retV (rLd h x49) h) h) fun x50 h =>
  bndC (gsel x45 true (retV (kMov [x1]) h) h) fun x51 h =>
  bndC (gsel x45 true (retV (kMov [x27]) h) h) fun x52 h =>
  bndC (gsel x45 true (retV (rIaS 1 x51 x52) h) h) fun x53 h =>
  (f378_1 rc x1 x21 x24 x27 x34 x37 x45 x50 x53 h)
noncomputable def f378_3 (rc : List V → HT → Option J) (x0 : V) (x1 : V) (x21 : V) (x24 : V) (x27 : V) (x28 : V) (h : HT) : Option J := tstv x28 (bndV (rIaS 1 x0 x27) fun x30 =>
  bndV (rLd h x30) fun x31 =>
  bndV (rLenS x31) fun x33 =>
  bndJ (loopF (fun rc vs h => unc1 vs fun x34 =>
  bndV (rLss x34 x33) fun x35 =>
  tstv x35 (bndV (rIaS 1 x31 x34) fun x36 =>
  (f378_2 rc x0 x1 x21 x24 x27 x34 x36 h))
  (some ⟨0, [], h⟩)) 1000000 [(.int .i64 (.ofNat (nat_lit 0)))] h)
  fun j vs h => bndV (rAdd x27 (.int .i64 (.ofNat (nat_lit 1)))) fun x86 =>
  rc [x86] h)
  (some ⟨0, [], h⟩)
noncomputable def f378_4 (rc : List V → HT → Option J) (x15 : V) (x97 : V) (x111 : V) (x115 : V) (x121 : V) (x122 : V) (h : HT) : Option J := bndC (gsel x115 false (retV (kMov [x15]) h) h) fun x123 h =>
  bndC (gsel x115 false (retV (rIaS 1 x122 x123) h) h) fun x124 h =>
  bndC (gsel x115 false (retV (rLd h x124) h) h) fun x125 h =>
  bndC (gsel x115 false (retV (rIaS 1 x125 (.int .i64 (.ofNat (nat_lit 0)))) h) h) fun x126 h =>
  bndC (gsel x115 false (retV (rLd h x126) h) h) fun x127 h =>
  bndC (gsel x115 false (retV (rLss x121 x127) h) h) fun x128 h =>
  bndC (gsel x111 true (retV (rPick x115 (.bool true) x128) h) h) fun x129 h =>
  bndV (rPick x111 x129 (.bool false)) fun x130 =>
  bndJ (tstv x130 (some ⟨0, [x97], h⟩)
  (some ⟨0, [x15], h⟩))
  fun j vs h => unc1 vs fun x15 =>
  bndV (rAdd x97 (.int .i64 (.ofNat (nat_lit 1)))) fun x132 =>
  rc [x15, x132] h
noncomputable def f378_5 (rc : List V → HT → Option J) (x2 : V) (x15 : V) (x97 : V) (x104 : V) (x106 : V) (x107 : V) (h : HT) : Option J := bndC (gsel x104 true (retV (rIaS 1 x106 x107) h) h) fun x108 h =>
  bndC (gsel x104 true (retV (rLd h x108) h) h) fun x109 h =>
  bndC (gsel x104 true (retV (rEql x109 (.int .i64 (.ofNat (nat_lit 0)))) h) h) fun x110 h =>
  bndV (rPick x104 x110 (.bool false)) fun x111 =>
  bndC (gsel x111 true (retV (kMov [x15]) h) h) fun x113 h =>
  bndC (gsel x111 true (retV (rLss x113 (.int .i64 (.ofNat (nat_lit 0)))) h) h) fun x114 h =>
  bndC (gsel x111 true (retV (kMov [x114]) h) h) fun x115 h =>
  bndC (gsel x115 false (retV (kMov [x2]) h) h) fun x116 h =>
  bndC (gsel x115 false (retV (kMov [x97]) h) h) fun x117 h =>
  bndC (gsel x115 false (retV (rIaS 1 x116 x117) h) h) fun x118 h =>
  bndC (gsel x115 false (retV (rLd h x118) h) h) fun x119 h =>
  bndC (gsel x115 false (retV (rIaS 1 x119 (.int .i64 (.ofNat (nat_lit 0)))) h) h) fun x120 h =>
  bndC (gsel x115 false (retV (rLd h x120) h) h) fun x121 h =>
  bndC (gsel x115 false (retV (kMov [x2]) h) h) fun x122 h =>
  (f378_4 rc x15 x97 x111 x115 x121 x122 h)
noncomputable def f378_6 (rc : List V → HT → Option J) (x21 : V) (x142 : V) (x146 : V) (x147 : V) (h : HT) : Option J := bndJ (loopF (fun rc vs h => unc1 vs fun x148 =>
  bndV (rLss x148 x147) fun x149 =>
  tstv x149 (bndV (rIaS 1 x146 x148) fun x150 =>
  bndV (rLd h x150) fun x151 =>
  bndV (rIaS 1 x21 x151) fun x154 =>
  bndV (rLd h x154) fun x155 =>
  bndV (rSub x155 (.int .i64 (.ofNat (nat_lit 1)))) fun x156 =>
  bndV (rIaS 1 x21 x151) fun x157 =>
  bndE (rSt h 1 x157 x156) h fun _ h =>
  bndV (rAdd x148 (.int .i64 (.ofNat (nat_lit 1)))) fun x158 =>
  rc [x158] h)
  (some ⟨0, [], h⟩)) 1000000 [(.int .i64 (.ofNat (nat_lit 0)))] h)
  fun j vs h => rc [x142] h
noncomputable def f378_7 (rc : List V → HT → Option J) (x2 : V) (x14 : V) (x21 : V) (x24 : V) (x89 : V) (x96 : V) (h : HT) : Option J := bndJ (loopF (fun rc vs h => unc2 vs fun x15 x97 =>
  bndV (rLss x97 x96) fun x98 =>
  tstv x98 (bndV (rIaS 1 x89 x97) fun x102 =>
  bndV (rLd h x102) fun x103 =>
  bndV (rEql x103 (.int .i64 (.ofNat (nat_lit 0)))) fun x104 =>
  bndC (gsel x104 true (retV (kMov [x21]) h) h) fun x106 h =>
  bndC (gsel x104 true (retV (kMov [x97]) h) h) fun x107 h =>
  (f378_5 rc x2 x15 x97 x104 x106 x107 h))
  (some ⟨0, [x15], h⟩)) 1000000 [(.int .i64 (.negSucc (nat_lit 0))), (.int .i64 (.ofNat (nat_lit 0)))] h)
  fun j vs h => unc1 vs fun x15 =>
  bndV (rIaS 1 x89 x15) fun x135 =>
  bndE (rSt h 1 x135 (.int .i64 (.ofNat (nat_lit 1)))) h fun _ h =>
  bndV (rIaS 1 x2 x15) fun x139 =>
  bndV (rLd h x139) fun x140 =>
  bndN (rBsl 1 1 [(.slice none 0 true 0)] [(0, 1)] [x140]) h fun x141 h =>
  bndE (dApp h 1 24 [x14, x141]) h fun x142 h =>
  bndV (rIaS 1 x24 x15) fun x145 =>
  bndV (rLd h x145) fun x146 =>
  bndV (rLenS x146) fun x147 =>
  (f378_6 rc x21 x142 x146 x147 h)
noncomputable def f378_8 (x0 : V) (x1 : V) (x2 : V) (x21 : V) (x24 : V) (x26 : V) (h : HT) : Option J := bndJ (loopF (fun rc vs h => unc1 vs fun x27 =>
  bndV (rLss x27 x26) fun x28 =>
  (f378_3 rc x0 x1 x21 x24 x27 x28 h)) 1000000 [(.int .i64 (.ofNat (nat_lit 0)))] h)
  fun j vs h => bndV (rLenS x2) fun x88 =>
  bndN (kMkS 1 8 [(.int .i64 (.ofNat (nat_lit 0)))] [x88, x88]) h fun x89 h =>
  bndJ (loopF (fun rc vs h => unc1 vs fun x14 =>
  bndV (rLenS x14) fun x91 =>
  bndV (rLenS x2) fun x93 =>
  bndV (rLss x91 x93) fun x94 =>
  tstv x94 (bndV (rLenS x2) fun x96 =>
  (f378_7 rc x2 x14 x21 x24 x89 x96 h))
  (some ⟨0, [x14], h⟩)) 1000000 [(.slice none 0 true 0)] h)
  fun j vs h => unc1 vs fun x14 =>
  ret1 x14 h
noncomputable def f378 (vs : List V) (h : HT) : Option J := unc3 vs fun x0 x1 x2 =>
  bndV (rLenS x2) fun x20 =>
  bndN (kMkS 1 8 [(.int .i64 (.ofNat (nat_lit 0)))] [x20, x20]) h fun x21 h =>
  bndV (rLenS x2) fun x23 =>
  bndN (kMkS 1 24 [(.slice none 0 true 0)] [x23, x23]) h fun x24 h =>
  bndV (rLenS x0) fun x26 =>
  (f378_8 x0 x1 x2 x21 x24 x26 h)

/- concord/graph.Parts -/
noncomputable def l350 : List (Nat × (List V → HT → Option J)) := [(377, f377), (378, f378)]
noncomputable def t350 : Fns := tab l350
noncomputable def f350_0 (rc : List V → HT → Option J) (x24 : V) (x26 : V) (x27 : V) (h : HT) : Option J := tstv x27 (bndV (rNilc x24) fun x30 =>
  bndV (rFa 1 x30) fun x31 =>
  bndV (rLd h x31) fun x32 =>
  bndV (rIaS 1 x32 x26) fun x34 =>
  bndV (rLd h x34) fun x35 =>
  bndV (rEql x35 (.int .i64 (.ofNat (nat_lit 0)))) fun x36 =>
  bndJ (tstv x36 (bndC (f377 [x24, x26] h) fun x39 h =>
  some ⟨0, [], h⟩)
  (some ⟨0, [], h⟩))
  fun j vs h => bndV (rAdd x26 (.int .i64 (.ofNat (nat_lit 1)))) fun x40 =>
  rc [x40] h)
  (some ⟨0, [], h⟩)
noncomputable def f350_1 (x45 : V) (x49 : V) (x50 : V) (h : HT) : Option J := loopF (fun rc vs h => unc1 vs fun x51 =>
  bndV (rLss x51 x50) fun x52 =>
  tstv x52 (bndV (rIaS 1 x49 x51) fun x54 =>
  bndV (rLd h x54) fun x55 =>
  bndV (rIaS 1 x45 x55) fun x60 =>
  bndV (rLd h x60) fun x61 =>
  bndN (rBsl 1 1 [(.int .i64 (.ofNat (nat_lit 0)))] [(0, 1)] [x51]) h fun x63 h =>
  bndE (dApp h 1 8 [x61, x63]) h fun x64 h =>
  bndV (rIaS 1 x45 x55) fun x65 =>
  bndE (rSt h 1 x65 x64) h fun _ h =>
  bndV (rAdd x51 (.int .i64 (.ofNat (nat_lit 1)))) fun x66 =>
  rc [x66] h)
  (some ⟨0, [], h⟩)) 1000000 [(.int .i64 (.ofNat (nat_lit 0)))] h
noncomputable def f350_2 (x0 : V) (x24 : V) (h : HT) : Option J := bndV (rNilc x24) fun x42 =>
  bndV (rFa 6 x42) fun x43 =>
  bndV (rLd h x43) fun x44 =>
  bndN (kMkS 1 24 [(.slice none 0 true 0)] [x44, x44]) h fun x45 h =>
  bndV (rNilc x24) fun x47 =>
  bndV (rFa 5 x47) fun x48 =>
  bndV (rLd h x48) fun x49 =>
  bndV (rLenS x49) fun x50 =>
  bndJ ((f350_1 x45 x49 x50 h))
  fun j vs h => bndV (rNilc x24) fun x69 =>
  bndV (rFa 5 x69) fun x70 =>
  bndV (rLd h x70) fun x71 =>
  bndC (f378 [x0, x71, x45] h) fun x73 h =>
  ret1 (.tuple [x73, (.int .i64 (.ofNat (nat_lit 0)))]) h
noncomputable def f350_3 (x0 : V) (x11 : V) (h : HT) : Option J := bndV (rGtr x11 (.int .i64 (.ofNat (nat_lit 512)))) fun x13 =>
  tstv x13 (ret1 (.tuple [(.slice none 0 true 0), (.int .i64 (.ofNat (nat_lit 2)))]) h)
  (bndN (kMkS 1 8 [(.int .i64 (.ofNat (nat_lit 0)))] [x11, x11]) h fun x16 h =>
  bndN (kMkS 1 8 [(.int .i64 (.ofNat (nat_lit 0)))] [x11, x11]) h fun x18 h =>
  bndN (kMkS 1 1 [(.bool false)] [x11, x11]) h fun x20 h =>
  bndN (kMkS 1 8 [(.int .i64 (.ofNat (nat_lit 0)))] [x11, x11]) h fun x22 h =>
  bndV (rBld [(.slice none 0 true 0), (.slice none 0 true 0), (.slice none 0 true 0), (.slice none 0 true 0), (.slice none 0 true 0), (.slice none 0 true 0), (.int .i64 (.ofNat (nat_lit 0))), (.int .i64 (.ofNat (nat_lit 0)))] [(0, 1), (1, 1), (2, 1), (3, 1), (5, 1)] [x0, x16, x18, x20, x22]) fun x23 =>
  bndN (rBox x23) h fun x24 h =>
  bndJ (loopF (fun rc vs h => unc1 vs fun x26 =>
  bndV (rLss x26 x11) fun x27 =>
  (f350_0 rc x24 x26 x27 h)) 1000000 [(.int .i64 (.ofNat (nat_lit 0)))] h)
  fun j vs h => (f350_2 x0 x24 h))
noncomputable def f350 (vs : List V) (h : HT) : Option J := unc1 vs fun x0 =>
  bndV (rLenS x0) fun x11 =>
  (f350_3 x0 x11 h)

/- (*concord/exec.plan).edges -/
noncomputable def l351 : List (Nat × (List V → HT → Option J)) := []
noncomputable def t351 : Fns := tab l351
noncomputable def f351_0 (rc : List V → HT → Option J) (x13 : V) (x16 : V) (x31 : V) (x38 : V) (x43 : V) (x49 : V) (x54 : V) (h : HT) : Option J := bndC (gsel x43 false (retV (rPick x49 x54 (.bool false)) h) h) fun x55 h =>
  bndC (gsel x38 true (retV (rPick x43 (.bool true) x55) h) h) fun x56 h =>
  bndV (rPick x38 x56 (.bool false)) fun x57 =>
  bndJ (tstv x57 (bndV (rIaS 1 x13 x16) fun x62 =>
  bndV (rLd h x62) fun x63 =>
  bndN (rBsl 1 1 [(.int .i64 (.ofNat (nat_lit 0)))] [(0, 1)] [x31]) h fun x65 h =>
  bndE (dApp h 1 8 [x63, x65]) h fun x66 h =>
  bndV (rIaS 1 x13 x16) fun x67 =>
  bndE (rSt h 1 x67 x66) h fun _ h =>
  some ⟨0, [], h⟩)
  (some ⟨0, [], h⟩))
  fun j vs h => bndV (rAdd x31 (.int .i64 (.ofNat (nat_lit 1)))) fun x68 =>
  rc [x68] h
noncomputable def f351_1 (rc : List V → HT → Option J) (x7 : V) (x10 : V) (x13 : V) (x16 : V) (x31 : V) (x38 : V) (x40 : V) (h : HT) : Option J := bndC (gsel x38 true (retV (rLdN h 2 x10) h) h) fun x41 h =>
  bndC (gsel x38 true (noF [x40, x41] h) h) fun x42 h =>
  bndC (gsel x38 true (retV (kMov [x42]) h) h) fun x43 h =>
  bndC (gsel x43 false (retV (rFa 0 x10) h) h) fun x44 h =>
  bndC (gsel x43 false (retV (rLd h x44) h) h) fun x45 h =>
  bndC (gsel x43 false (retV (rFa 0 x7) h) h) fun x46 h =>
  bndC (gsel x43 false (retV (rLd h x46) h) h) fun x47 h =>
  bndC (gsel x43 false (retV (rEql x45 x47) h) h) fun x48 h =>
  bndC (gsel x43 false (retV (kMov [x48]) h) h) fun x49 h =>
  bndC (gsel x49 true (retV (rFa 1 x10) h) h) fun x50 h =>
  bndC (gsel x49 true (retV (rLd h x50) h) h) fun x51 h =>
  bndC (gsel x49 true (retV (rFa 1 x7) h) h) fun x52 h =>
  bndC (gsel x49 true (retV (rLd h x52) h) h) fun x53 h =>
  bndC (gsel x49 true (retV (rLss x51 x53) h) h) fun x54 h =>
  (f351_0 rc x13 x16 x31 x38 x43 x49 x54 h)
noncomputable def f351_2 (rc : List V → HT → Option J) (x1 : V) (x7 : V) (x8 : V) (x13 : V) (x16 : V) (x30 : V) (h : HT) : Option J := bndJ (loopF (fun rc vs h => unc1 vs fun x31 =>
  bndV (rLss x31 x30) fun x32 =>
  tstv x32 (bndV (rIaS 2 x1 x31) fun x34 =>
  bndV (rLdN h 2 x34) fun x35 =>
  bndN (rAlloc [(.int .i64 (.ofNat (nat_lit 0))), (.int .i64 (.ofNat (nat_lit 0)))] []) h fun x10 h =>
  bndE (rSt h 2 x10 x35) h fun _ h =>
  bndV (rNeq x16 x31) fun x38 =>
  bndC (gsel x38 true (retV (rLdN h 7 x8) h) h) fun x40 h =>
  (f351_1 rc x7 x10 x13 x16 x31 x38 x40 h))
  (some ⟨0, [], h⟩)) 1000000 [(.int .i64 (.ofNat (nat_lit 0)))] h)
  fun j vs h => bndV (rAdd x16 (.int .i64 (.ofNat (nat_lit 1)))) fun x69 =>
  rc [x69] h
noncomputable def f351_3 (rc : List V → HT → Option J) (x0 : V) (x1 : V) (x13 : V) (x16 : V) (h : HT) : Option J := bndV (rIaS 2 x1 x16) fun x19 =>
  bndV (rLdN h 2 x19) fun x20 =>
  bndN (rAlloc [(.int .i64 (.ofNat (nat_lit 0))), (.int .i64 (.ofNat (nat_lit 0)))] []) h fun x7 h =>
  bndE (rSt h 2 x7 x20) h fun _ h =>
  bndV (rNilc x0) fun x22 =>
  bndV (rFa 7 x22) fun x23 =>
  bndV (rLd h x23) fun x24 =>
  bndV (rLdN h 2 x7) fun x25 =>
  bndV (kLkp h.heap true [.i, .i] (.agg [(.int .i64 (.ofNat (nat_lit 0))), (.int .i64 (.ofNat (nat_lit 0))), (.int .i64 (.ofNat (nat_lit 0))), (.int .i64 (.ofNat (nat_lit 0))), (.int .i64 (.ofNat (nat_lit 0))), (.int .i64 (.ofNat (nat_lit 0))), (.int .i64 (.ofNat (nat_lit 0))), (.int .i64 (.ofNat (nat_lit 0))), (.str (sb [])), (.str (sb [])), (.str (sb [])), (.str (sb [])), (.int .i64 (.ofNat (nat_lit 0))), (.int .i64 (.ofNat (nat_lit 0))), (.int .i64 (.ofNat (nat_lit 0))), (.int .i64 (.ofNat (nat_lit 0))), (.int .i64 (.ofNat (nat_lit 0))), (.int .i64 (.ofNat (nat_lit 0))), (.int .i64 (.ofNat (nat_lit 0))), (.int .i64 (.ofNat (nat_lit 0))), (.bool false)]) false [x24, x25]) fun x26 =>
  bndV (kFld 12 8 true [x26]) fun x27 =>
  bndV (kFld 1 7 true [x27]) fun x28 =>
  bndN (rAlloc [(.int .i64 (.ofNat (nat_lit 0))), (.int .i64 (.ofNat (nat_lit 0))), (.int .i64 (.ofNat (nat_lit 0))), (.int .i64 (.ofNat (nat_lit 0))), (.int .i64 (.ofNat (nat_lit 0))), (.int .i64 (.ofNat (nat_lit 0))), (.int .i64 (.ofNat (nat_lit 0)))] []) h fun x8 h =>
  bndE (rSt h 7 x8 x28) h fun _ h =>
  bndV (rLenS x1) fun x30 =>
  (f351_2 rc x1 x7 x8 x13 x16 x30 h)
noncomputable def f351 (vs : List V) (h : HT) : Option J := unc2 vs fun x0 x1 =>
  bndV (rLenS x1) fun x12 =>
  bndN (kMkS 1 24 [(.slice none 0 true 0)] [x12, x12]) h fun x13 h =>
  bndV (rLenS x1) fun x15 =>
  bndJ (loopF (fun rc vs h => unc1 vs fun x16 =>
  bndV (rLss x16 x15) fun x17 =>
  tstv x17 ((f351_3 rc x0 x1 x13 x16 h))
  (some ⟨0, [], h⟩)) 1000000 [(.int .i64 (.ofNat (nat_lit 0)))] h)
  fun j vs h => ret1 x13 h

/- slices.insertionSortCmpFunc[int] -/
noncomputable def l394 : List (Nat × (List V → HT → Option J)) := []
noncomputable def t394 : Fns := tab l394
noncomputable def f394_0 (rc : List V → HT → Option J) (x0 : V) (x9 : V) (x20 : V) (x33 : V) (h : HT) : Option J := bndV (rPick x20 x33 (.bool false)) fun x34 =>
  tstv x34 (bndV (rSub x9 (.int .i64 (.ofNat (nat_lit 1)))) fun x41 =>
  bndV (rSub x9 (.int .i64 (.ofNat (nat_lit 1)))) fun x44 =>
  bndV (rIaS 1 x0 x44) fun x45 =>
  bndV (rLd h x45) fun x46 =>
  bndV (rIaS 1 x0 x9) fun x49 =>
  bndV (rLd h x49) fun x50 =>
  bndV (rIaS 1 x0 x9) fun x51 =>
  bndE (rSt h 1 x51 x46) h fun _ h =>
  bndV (rIaS 1 x0 x41) fun x52 =>
  bndE (rSt h 1 x52 x50) h fun _ h =>
  bndV (rSub x9 (.int .i64 (.ofNat (nat_lit 1)))) fun x36 =>
  rc [x36] h)
  (some ⟨0, [], h⟩)
noncomputable def f394_1 (rc : List V → HT → Option J) (x0 : V) (x1 : V) (x3 : V) (vs : List V) (h : HT) : Option J := unc1 vs fun x9 =>
  bndV (rGtr x9 x1) fun x20 =>
  bndC (gsel x20 true (retV (kMov [x3]) h) h) fun x22 h =>
  bndC (gsel x20 true (retV (kMov [x0]) h) h) fun x23 h =>
  bndC (gsel x20 true (retV (kMov [x9]) h) h) fun x24 h =>
  bndC (gsel x20 true (retV (rIaS 1 x23 x24) h) h) fun x25 h =>
  bndC (gsel x20 true (retV (rLd h x25) h) h) fun x26 h =>
  bndC (gsel x20 true (retV (kMov [x0]) h) h) fun x27 h =>
  bndC (gsel x20 true (retV (kMov [x9]) h) h) fun x28 h =>
  bndC (gsel x20 true (retV (rSub x28 (.int .i64 (.ofNat (nat_lit 1)))) h) h) fun x29 h =>
  bndC (gsel x20 true (retV (rIaS 1 x27 x29) h) h) fun x30 h =>
  bndC (gsel x20 true (retV (rLd h x30) h) h) fun x31 h =>
  bndC (gsel x20 true (callvT t394 [x22, x26, x31] h) h) fun x32 h =>
  bndC (gsel x20 true (retV (rLss x32 (.int .i64 (.ofNat (nat_lit 0)))) h) h) fun x33 h =>
  (f394_0 rc x0 x9 x20 x33 h)
noncomputable def f394 (vs : List V) (h : HT) : Option J := unc4 vs fun x0 x1 x2 x3 vs =>
  bndV (rAdd x1 (.int .i64 (.ofNat (nat_lit 1)))) fun x11 =>
  bndJ (loopF (fun rc vs h => unc1 vs fun x8 =>
  bndV (rLss x8 x2) fun x14 =>
  tstv x14 (bndJ (loopF (fun rc vs h => (f394_1 rc x0 x1 x3 vs h)) 1000000 [x8] h)
  fun j vs h => bndV (rAdd x8 (.int .i64 (.ofNat (nat_lit 1)))) fun x16 =>
  rc [x16] h)
  (some ⟨0, [], h⟩)) 1000000 [x11] h)
  fun j vs h => ret1 (.tuple []) h

/- slices.stableCmpFunc[int] -/
noncomputable def l379 : List (Nat × (List V → HT → Option J)) := [(394, f394)]
noncomputable def t379 : Fns := tab l379
noncomputable def f379_0 (rc : List V → HT → Option J) (x0 : V) (x1 : V) (x2 : V) (x6 : V) (x32 : V) (h : HT) : Option J := bndJ (loopF (fun rc vs h => unc2 vs fun x7_1 x8 =>
  bndV (rLeq x8 x1) fun x35 =>
  tstv x35 (bndV (rAdd x7_1 x6) fun x40 =>
  bndC (noF [x0, x7_1, x40, x8, x2] h) fun x43 h =>
  bndV (qBin .mul [(.int .i64 (.ofNat (nat_lit 2))), x6]) fun x47 =>
  bndV (rAdd x8 x47) fun x48 =>
  rc [x8, x48] h)
  (some ⟨0, [x7_1], h⟩)) 1000000 [(.int .i64 (.ofNat (nat_lit 0))), x32] h)
  fun j vs h => unc1 vs fun x7_1 =>
  bndV (rAdd x7_1 x6) fun x51 =>
  bndV (rLss x51 x1) fun x54 =>
  bndJ (tstv x54 (bndC (noF [x0, x7_1, x51, x1, x2] h) fun x60 h =>
  some ⟨0, [], h⟩)
  (some ⟨0, [], h⟩))
  fun j vs h => bndV (qBin .mul [x6, (.int .i64 (.ofNat (nat_lit 2)))]) fun x62 =>
  rc [x62] h
noncomputable def f379_1 (x0 : V) (x1 : V) (x2 : V) (h : HT) : Option J := bndJ (loopF (fun rc vs h => unc2 vs fun x7 x8 =>
  bndV (rLeq x8 x1) fun x13 =>
  tstv x13 (bndC (f394 [x0, x7, x8, x2] h) fun x18 h =>
  bndV (rAdd x8 (.int .i64 (.ofNat (nat_lit 20)))) fun x22 =>
  rc [x8, x22] h)
  (some ⟨0, [x7], h⟩)) 1000000 [(.int .i64 (.ofNat (nat_lit 0))), (.int .i64 (.ofNat (nat_lit 20)))] h)
  fun j vs h => unc1 vs fun x7 =>
  bndC (f394 [x0, x7, x1, x2] h) fun x27 h =>
  bndJ (loopF (fun rc vs h => unc1 vs fun x6 =>
  bndV (rLss x6 x1) fun x30 =>
  tstv x30 (bndV (qBin .mul [(.int .i64 (.ofNat (nat_lit 2))), x6]) fun x32 =>
  (f379_0 rc x0 x1 x2 x6 x32 h))
  (some ⟨0, [], h⟩)) 1000000 [(.int .i64 (.ofNat (nat_lit 20)))] h)
  fun j vs h => ret1 (.tuple []) h
noncomputable def f379 (vs : List V) (h : HT) : Option J := unc3 vs fun x0 x1 x2 =>
  (f379_1 x0 x1 x2 h)

/- slices.SortStableFunc[[]int,int] -/
noncomputable def l352 : List (Nat × (List V → HT → Option J)) := [(379, f379)]
noncomputable def t352 : Fns := tab l352

noncomputable def f352 (vs : List V) (h : HT) : Option J := unc2 vs fun x0 x1 =>
  bndV (rLenS x0) fun x6 =>
  bndC (f379 [x0, x6, x1] h) fun x8 h =>
  ret1 (.tuple []) h

/- (*concord/exec.plan).do -/
noncomputable def l309 : List (Nat × (List V → HT → Option J)) := [(270, f270), (350, f350), (351, f351), (352, f352)]
noncomputable def t309 : Fns := tab l309
noncomputable def f309_0 (rc : List V → HT → Option J) (x10 : V) (x31 : V) (x56 : V) (x58 : V) (x59 : V) (h : HT) : Option J := bndV (rFa 0 x10) fun x60 =>
  bndV (rLd h x60) fun x61 =>
  bndV (rNilc x59) fun x62 =>
  bndV (rFa 0 x62) fun x63 =>
  bndV (rIaA 7 1 x63 x61) fun x64 =>
  bndV (rLd h x64) fun x65 =>
  bndV (rFa 1 x10) fun x66 =>
  bndV (rLd h x66) fun x67 =>
  bndV (rMax x65 x67) fun x68 =>
  bndV (rNilc x56) fun x69 =>
  bndV (rFa 0 x69) fun x70 =>
  bndV (rIaA 7 1 x70 x58) fun x71 =>
  bndE (rSt h 1 x71 x68) h fun _ h =>
  bndV (rAdd x31 (.int .i64 (.ofNat (nat_lit 1)))) fun x72 =>
  rc [x72] h
noncomputable def f309_1 (rc : List V → HT → Option J) (x2 : V) (x10 : V) (x31 : V) (x39 : V) (x43 : V) (x44 : V) (x47 : V) (h : HT) : Option J := bndV (rLd h x47) fun x48 =>
  bndV (rLdN h 2 x10) fun x49 =>
  bndV (kLkp h.heap true [.i, .i] (.agg [(.int .i64 (.ofNat (nat_lit 0))), (.int .i64 (.ofNat (nat_lit 0))), (.int .i64 (.ofNat (nat_lit 0))), (.int .i64 (.ofNat (nat_lit 0))), (.int .i64 (.ofNat (nat_lit 0))), (.int .i64 (.ofNat (nat_lit 0))), (.int .i64 (.ofNat (nat_lit 0))), (.int .i64 (.ofNat (nat_lit 0))), (.str (sb [])), (.str (sb [])), (.str (sb [])), (.str (sb [])), (.int .i64 (.ofNat (nat_lit 0))), (.int .i64 (.ofNat (nat_lit 0))), (.int .i64 (.ofNat (nat_lit 0))), (.int .i64 (.ofNat (nat_lit 0))), (.int .i64 (.ofNat (nat_lit 0))), (.int .i64 (.ofNat (nat_lit 0))), (.int .i64 (.ofNat (nat_lit 0))), (.int .i64 (.ofNat (nat_lit 0))), (.bool false)]) false [x48, x49]) fun x50 =>
  bndV (rBld [(.int .i64 (.ofNat (nat_lit 0))), (.int .i64 (.ofNat (nat_lit 0))), (.int .i64 (.ofNat (nat_lit 0))), (.int .i64 (.ofNat (nat_lit 0))), (.int .i64 (.ofNat (nat_lit 0))), (.int .i64 (.ofNat (nat_lit 0))), (.int .i64 (.ofNat (nat_lit 0))), (.int .i64 (.ofNat (nat_lit 0))), (.int .i64 (.ofNat (nat_lit 0))), (.int .i64 (.ofNat (nat_lit 0))), (.str (sb [])), (.str (sb [])), (.str (sb [])), (.str (sb [])), (.int .i64 (.ofNat (nat_lit 0))), (.int .i64 (.ofNat (nat_lit 0))), (.int .i64 (.ofNat (nat_lit 0))), (.int .i64 (.ofNat (nat_lit 0))), (.int .i64 (.ofNat (nat_lit 0))), (.int .i64 (.ofNat (nat_lit 0))), (.int .i64 (.ofNat (nat_lit 0))), (.int .i64 (.ofNat (nat_lit 0))), (.bool false)] [(0, 2), (2, 21)] [x44, x50]) fun x51 =>
  bndN (rBsl 23 1 [(.int .i64 (.ofNat (nat_lit 0))), (.int .i64 (.ofNat (nat_lit 0))), (.int .i64 (.ofNat (nat_lit 0))), (.int .i64 (.ofNat (nat_lit 0))), (.int .i64 (.ofNat (nat_lit 0))), (.int .i64 (.ofNat (nat_lit 0))), (.int .i64 (.ofNat (nat_lit 0))), (.int .i64 (.ofNat (nat_lit 0))), (.int .i64 (.ofNat (nat_lit 0))), (.int .i64 (.ofNat (nat_lit 0))), (.str (sb [])), (.str (sb [])), (.str (sb [])), (.str (sb [])), (.int .i64 (.ofNat (nat_lit 0))), (.int .i64 (.ofNat (nat_lit 0))), (.int .i64 (.ofNat (nat_lit 0))), (.int .i64 (.ofNat (nat_lit 0))), (.int .i64 (.ofNat (nat_lit 0))), (.int .i64 (.ofNat (nat_lit 0))), (.int .i64 (.ofNat (nat_lit 0))), (.int .i64 (.ofNat (nat_lit 0))), (.bool false)] [(0, 23)] [x51]) h fun x52 h =>
  bndE (dApp h 23 216 [x43, x52]) h fun x53 h =>
  chk1 (sameE (rLd h x2) x39) (bndV (rNilc x39) fun x54 =>
  bndV (rFa 8 x54) fun x55 =>
  bndE (rSt h 1 x55 x53) h fun _ h =>
  bndV (rLd h x2) fun x56 =>
  bndV (rFa 0 x10) fun x57 =>
  bndV (rLd h x57) fun x58 =>
  bndV (rLd h x2) fun x59 =>
  (f309_0 rc x10 x31 x56 x58 x59 h))
noncomputable def f309_2 (rc : List V → HT → Option J) (x2 : V) (x3 : V) (x31 : V) (x34 : V) (h : HT) : Option J := bndV (rLd h x3) fun x35 =>
  bndV (rIaS 2 x35 x34) fun x37 =>
  bndV (rLdN h 2 x37) fun x38 =>
  bndN (rAlloc [(.int .i64 (.ofNat (nat_lit 0))), (.int .i64 (.ofNat (nat_lit 0)))] []) h fun x10 h =>
  bndE (rSt h 2 x10 x38) h fun _ h =>
  bndV (rLd h x2) fun x39 =>
  bndV (rLd h x2) fun x40 =>
  bndV (rNilc x40) fun x41 =>
  bndV (rFa 8 x41) fun x42 =>
  bndV (rLd h x42) fun x43 =>
  bndV (rLdN h 2 x10) fun x44 =>
  bndV (rLd h x2) fun x45 =>
  bndV (rNilc x45) fun x46 =>
  bndV (rFa 7 x46) fun x47 =>
  (f309_1 rc x2 x10 x31 x39 x43 x44 x47 h)
noncomputable def f309_3 (rc : List V → HT → Option J) (x2 : V) (x3 : V) (x22 : V) (x24 : V) (h : HT) : Option J := bndV (rLd h x24) fun x25 =>
  bndV (kMkF 353 [x2, x3]) fun x27 =>
  bndC (f352 [x25, x27] h) fun x28 h =>
  bndV (rLenS x25) fun x30 =>
  bndJ (loopF (fun rc vs h => unc1 vs fun x31 =>
  bndV (rLss x31 x30) fun x32 =>
  tstv x32 (bndV (rIaS 1 x25 x31) fun x33 =>
  bndV (rLd h x33) fun x34 =>
  (f309_2 rc x2 x3 x31 x34 h))
  (some ⟨0, [], h⟩)) 1000000 [(.int .i64 (.ofNat (nat_lit 0)))] h)
  fun j vs h => bndV (rAdd x22 (.int .i64 (.ofNat (nat_lit 1)))) fun x73 =>
  rc [x73] h
noncomputable def f309_4 (x2 : V) (x3 : V) (x14 : V) (h : HT) : Option J := bndV (rLd h x3) fun x15 =>
  bndC (f351 [x14, x15] h) fun x16 h =>
  bndC (f350 [x16] h) fun x17 h =>
  bndV (rExt 0 x17) fun x18 =>
  bndV (rExt 1 x17) fun x19 =>
  bndV (rLenS x18) fun x21 =>
  bndJ (loopF (fun rc vs h => unc1 vs fun x22 =>
  bndV (rLss x22 x21) fun x23 =>
  tstv x23 (bndV (rIaS 1 x18 x22) fun x24 =>
  (f309_3 rc x2 x3 x22 x24 h))
  (some ⟨0, [], h⟩)) 1000000 [(.int .i64 (.ofNat (nat_lit 0)))] h)
  fun j vs h => ret1 (.tuple []) h
noncomputable def f309 (vs : List V) (h : HT) : Option J := unc2 vs fun x0 x1 =>
  bndN (rBox x0) h fun x2 h =>
  bndN (rBox x1) h fun x3 h =>
  bndV (rLd h x3) fun x11 =>
  bndC (f270 [x11, (.func 349 [])] h) fun x12 h =>
  bndV (rLd h x2) fun x14 =>
  (f309_4 x2 x3 x14 h)

/- (*concord/exec.plan).round -/
noncomputable def l255 : List (Nat × (List V → HT → Option J)) := [(305, f305), (306, f306), (308, f308), (309, f309)]
noncomputable def t255 : Fns := tab l255
noncomputable def f255_0 (x0 : V) (x4 : V) (x11 : V) (x12 : V) (x46 : V) (x51 : V) (h : HT) : Option J := bndJ (tstv x51 (bndC (f309 [x0, x46] h) fun x54 h =>
  some ⟨0, [(.bool true)], h⟩)
  (bndV (rLdN h 2 x11) fun x56 =>
  bndV (rBld [(.int .i64 (.ofNat (nat_lit 0))), (.int .i64 (.ofNat (nat_lit 0)))] [] []) fun x57 =>
  bndV (kEqF true [.i, .i] [x56, x57]) fun x58 =>
  bndJ (tstv x58 (bndV (rLdN h 2 x11) fun x60 =>
  bndC (noF [x12, x60] h) fun x61 h =>
  some ⟨0, [], h⟩)
  (some ⟨0, [], h⟩))
  fun j vs h => some ⟨0, [x4], h⟩))
  fun j vs h => unc1 vs fun x4 =>
  some ⟨0, [x4], h⟩
noncomputable def f255_1 (x0 : V) (x4 : V) (x7 : V) (x12 : V) (x35 : V) (h : HT) : Option J := tstv x35 (bndV (rLdN h 2 x7) fun x37 =>
  bndC (f306 [x0, x37] h) fun x38 h =>
  bndJ (tstv x38 (bndV (rLdN h 2 x7) fun x40 =>
  bndC (noF [x12, x40] h) fun x41 h =>
  some ⟨0, [], h⟩)
  (some ⟨0, [], h⟩))
  fun j vs h => some ⟨0, [x4], h⟩)
  (bndV (rLdN h 2 x7) fun x44 =>
  bndC (f308 [x0, x44] h) fun x45 h =>
  bndV (rExt 0 x45) fun x46 =>
  bndV (rExt 1 x45) fun x47 =>
  bndN (rAlloc [(.int .i64 (.ofNat (nat_lit 0))), (.int .i64 (.ofNat (nat_lit 0)))] []) h fun x11 h =>
  bndE (rSt h 2 x11 x47) h fun _ h =>
  bndV (rLenS x46) fun x50 =>
  bndV (rGtr x50 (.int .i64 (.ofNat (nat_lit 0)))) fun x51 =>
  (f255_0 x0 x4 x11 x12 x46 x51 h))
noncomputable def f255_2 (x0 : V) (x4 : V) (x12 : V) (x13 : V) (x22 : V) (h : HT) : Option J := bndV (rAdd x22 (.int .i64 (.ofNat (nat_lit 1)))) fun x23 =>
  bndV (rBld [(.int .i64 (.ofNat (nat_lit 0))), (.int .i64 (.ofNat (nat_lit 0)))] [(0, 1), (1, 1)] [x13, x23]) fun x24 =>
  bndN (rAlloc [(.int .i64 (.ofNat (nat_lit 0))), (.int .i64 (.ofNat (nat_lit 0)))] []) h fun x7 h =>
  bndE (rSt h 2 x7 x24) h fun _ h =>
  bndV (rNilc x0) fun x27 =>
  bndV (rFa 7 x27) fun x28 =>
  bndV (rLd h x28) fun x29 =>
  bndV (rLdN h 2 x7) fun x30 =>
  bndV (kLkp h.heap true [.i, .i] (.agg [(.int .i64 (.ofNat (nat_lit 0))), (.int .i64 (.ofNat (nat_lit 0))), (.int .i64 (.ofNat (nat_lit 0))), (.int .i64 (.ofNat (nat_lit 0))), (.int .i64 (.ofNat (nat_lit 0))), (.int .i64 (.ofNat (nat_lit 0))), (.int .i64 (.ofNat (nat_lit 0))), (.int .i64 (.ofNat (nat_lit 0))), (.str (sb [])), (.str (sb [])), (.str (sb [])), (.str (sb [])), (.int .i64 (.ofNat (nat_lit 0))), (.int .i64 (.ofNat (nat_lit 0))), (.int .i64 (.ofNat (nat_lit 0))), (.int .i64 (.ofNat (nat_lit 0))), (.int .i64 (.ofNat (nat_lit 0))), (.int .i64 (.ofNat (nat_lit 0))), (.int .i64 (.ofNat (nat_lit 0))), (.int .i64 (.ofNat (nat_lit 0))), (.bool false)]) true [x29, x30]) fun x31 =>
  bndV (rExt 0 x31) fun x32 =>
  bndV (rExt 1 x31) fun x33 =>
  bndN (rAlloc [(.int .i64 (.ofNat (nat_lit 0))), (.int .i64 (.ofNat (nat_lit 0))), (.int .i64 (.ofNat (nat_lit 0))), (.int .i64 (.ofNat (nat_lit 0))), (.int .i64 (.ofNat (nat_lit 0))), (.int .i64 (.ofNat (nat_lit 0))), (.int .i64 (.ofNat (nat_lit 0))), (.int .i64 (.ofNat (nat_lit 0))), (.str (sb [])), (.str (sb [])), (.str (sb [])), (.str (sb [])), (.int .i64 (.ofNat (nat_lit 0))), (.int .i64 (.ofNat (nat_lit 0))), (.int .i64 (.ofNat (nat_lit 0))), (.int .i64 (.ofNat (nat_lit 0))), (.int .i64 (.ofNat (nat_lit 0))), (.int .i64 (.ofNat (nat_lit 0))), (.int .i64 (.ofNat (nat_lit 0))), (.int .i64 (.ofNat (nat_lit 0))), (.bool false)] []) h fun x8 h =>
  bndE (rSt h 21 x8 x32) h fun _ h =>
  bndV (rNot x33) fun x35 =>
  (f255_1 x0 x4 x7 x12 x35 h)
noncomputable def f255_3 (x0 : V) (x12 : V) (h : HT) : Option J := bndJ (loopF (fun rc vs h => unc2 vs fun x4 x13 =>
  bndV (rLss x13 (.int .i64 (.ofNat (nat_lit 7)))) fun x14 =>
  tstv x14 (bndJ (bndV (rNilc x0) fun x19 =>
  bndV (rFa 0 x19) fun x20 =>
  bndV (rIaA 7 1 x20 x13) fun x21 =>
  bndV (rLd h x21) fun x22 =>
  (f255_2 x0 x4 x12 x13 x22 h))
  fun j vs h => unc1 vs fun x4 =>
  bndV (rAdd x13 (.int .i64 (.ofNat (nat_lit 1)))) fun x62 =>
  rc [x4, x62] h)
  (some ⟨0, [x4], h⟩)) 1000000 [(.bool false), (.int .i64 (.ofNat (nat_lit 0)))] h)
  fun j vs h => unc1 vs fun x4 =>
  ret1 (.tuple [x4, x12]) h
noncomputable def f255 (vs : List V) (h : HT) : Option J := unc1 vs fun x0 =>
  bndC (f305 [(.slice none 0 true 0)] h) fun x12 h =>
  (f255_3 x0 x12 h)

/- (*concord/inst.Set).List -/
noncomputable def l256 : List (Nat × (List V → HT → Option J)) := [(270, f270)]
noncomputable def t256 : Fns := tab l256
noncomputable def f256_0 (x9 : V) (h : HT) : Option J := bndJ (loopF (fun rc vs h => unc1 vs fun x3 =>
  bndE (dNx h [x9]) h fun x10 h =>
  bndV (rExt 0 x10) fun x11 =>
  tstv x11 (bndV (kEnt h.heap [x9]) fun x12 =>
  bndV (rExt 0 x12) fun x13 =>
  bndN (rAlloc [(.int .i64 (.ofNat (nat_lit 0))), (.int .i64 (.ofNat (nat_lit 0)))] []) h fun x4 h =>
  bndE (rSt h 2 x4 x13) h fun _ h =>
  bndV (rLdN h 2 x4) fun x15 =>
  bndN (rBsl 2 1 [(.int .i64 (.ofNat (nat_lit 0))), (.int .i64 (.ofNat (nat_lit 0)))] [(0, 2)] [x15]) h fun x16 h =>
  bndE (dApp h 2 16 [x3, x16]) h fun x17 h =>
  rc [x17] h)
  (some ⟨0, [x3], h⟩)) 1000000 [(.slice none 0 true 0)] h)
  fun j vs h => unc1 vs fun x3 =>
  bndC (f270 [x3, (.func 310 [])] h) fun x19 h =>
  ret1 x3 h
noncomputable def f256 (vs : List V) (h : HT) : Option J := unc1 vs fun x0 =>
  bndV (rNilc x0) fun x6 =>
  bndV (rFa 0 x6) fun x7 =>
  bndV (rLd h x7) fun x8 =>
  bndN (kRng h.heap [x8]) h fun x9 h =>
  (f256_0 x9 h)

/- concord/exec.Plan -/
noncomputable def l193 : List (Nat × (List V → HT → Option J)) := [(255, f255), (256, f256)]
noncomputable def t193 : Fns := tab l193
noncomputable def f193_0 (x8 : V) (x16 : V) (x32 : V) (x35 : V) (h : HT) : Option J := bndC (gsel x32 false (retV (rFa 0 x35) h) h) fun x36 h =>
  bndC (gsel x32 false (retV (rLd h x36) h) h) fun x37 h =>
  bndC (gsel x32 false (retV (rNeq x37 (.int .i64 (.ofNat (nat_lit 3)))) h) h) fun x38 h =>
  bndV (rPick x32 (.bool true) x38) fun x39 =>
  tstv x39 (some ⟨0, [], h⟩)
  (bndV (rNilc x16) fun x41 =>
  bndV (rFa 7 x41) fun x42 =>
  bndV (rLd h x42) fun x43 =>
  bndV (rFa 0 x8) fun x44 =>
  bndV (rLdN h 2 x44) fun x45 =>
  bndV (rFa 2 x8) fun x46 =>
  bndV (rLdN h 21 x46) fun x47 =>
  bndE (dMset h true [.i, .i] [x43, x45, x47]) h fun _ h =>
  some ⟨0, [], h⟩)
noncomputable def f193_1 (x16 : V) (x21 : V) (h : HT) : Option J := bndV (rLdN h 23 x21) fun x22 =>
  bndN (rAlloc [(.int .i64 (.ofNat (nat_lit 0))), (.int .i64 (.ofNat (nat_lit 0))), (.int .i64 (.ofNat (nat_lit 0))), (.int .i64 (.ofNat (nat_lit 0))), (.int .i64 (.ofNat (nat_lit 0))), (.int .i64 (.ofNat (nat_lit 0))), (.int .i64 (.ofNat (nat_lit 0))), (.int .i64 (.ofNat (nat_lit 0))), (.int .i64 (.ofNat (nat_lit 0))), (.int .i64 (.ofNat (nat_lit 0))), (.str (sb [])), (.str (sb [])), (.str (sb [])), (.str (sb [])), (.int .i64 (.ofNat (nat_lit 0))), (.int .i64 (.ofNat (nat_lit 0))), (.int .i64 (.ofNat (nat_lit 0))), (.int .i64 (.ofNat (nat_lit 0))), (.int .i64 (.ofNat (nat_lit 0))), (.int .i64 (.ofNat (nat_lit 0))), (.int .i64 (.ofNat (nat_lit 0))), (.int .i64 (.ofNat (nat_lit 0))), (.bool false)] []) h fun x8 h =>
  bndE (rSt h 23 x8 x22) h fun _ h =>
  bndV (rNilc x16) fun x25 =>
  bndV (rFa 7 x25) fun x26 =>
  bndV (rLd h x26) fun x27 =>
  bndV (rFa 0 x8) fun x28 =>
  bndV (rLdN h 2 x28) fun x29 =>
  bndV (kLkp h.heap true [.i, .i] (.agg [(.int .i64 (.ofNat (nat_lit 0))), (.int .i64 (.ofNat (nat_lit 0))), (.int .i64 (.ofNat (nat_lit 0))), (.int .i64 (.ofNat (nat_lit 0))), (.int .i64 (.ofNat (nat_lit 0))), (.int .i64 (.ofNat (nat_lit 0))), (.int .i64 (.ofNat (nat_lit 0))), (.int .i64 (.ofNat (nat_lit 0))), (.str (sb [])), (.str (sb [])), (.str (sb [])), (.str (sb [])), (.int .i64 (.ofNat (nat_lit 0))), (.int .i64 (.ofNat (nat_lit 0))), (.int .i64 (.ofNat (nat_lit 0))), (.int .i64 (.ofNat (nat_lit 0))), (.int .i64 (.ofNat (nat_lit 0))), (.int .i64 (.ofNat (nat_lit 0))), (.int .i64 (.ofNat (nat_lit 0))), (.int .i64 (.ofNat (nat_lit 0))), (.bool false)]) true [x27, x29]) fun x30 =>
  bndV (rExt 0 x30) fun x31 =>
  bndV (rExt 1 x30) fun x32 =>
  bndN (rAlloc [(.int .i64 (.ofNat (nat_lit 0))), (.int .i64 (.ofNat (nat_lit 0))), (.int .i64 (.ofNat (nat_lit 0))), (.int .i64 (.ofNat (nat_lit 0))), (.int .i64 (.ofNat (nat_lit 0))), (.int .i64 (.ofNat (nat_lit 0))), (.int .i64 (.ofNat (nat_lit 0))), (.int .i64 (.ofNat (nat_lit 0))), (.str (sb [])), (.str (sb [])), (.str (sb [])), (.str (sb [])), (.int .i64 (.ofNat (nat_lit 0))), (.int .i64 (.ofNat (nat_lit 0))), (.int .i64 (.ofNat (nat_lit 0))), (.int .i64 (.ofNat (nat_lit 0))), (.int .i64 (.ofNat (nat_lit 0))), (.int .i64 (.ofNat (nat_lit 0))), (.int .i64 (.ofNat (nat_lit 0))), (.int .i64 (.ofNat (nat_lit 0))), (.bool false)] []) h fun x9 h =>
  bndE (rSt h 21 x9 x31) h fun _ h =>
  bndC (gsel x32 false (retV (rFa 2 x8) h) h) fun x35 h =>
  (f193_0 x8 x16 x32 x35 h)
noncomputable def f193_2 (x16 : V) (h : HT) : Option J := bndJ (loopF (fun rc vs h => bndC (f255 [x16] h) fun x51 h =>
  bndV (rExt 0 x51) fun x52 =>
  bndV (rExt 1 x51) fun x53 =>
  bndV (rNot x52) fun x55 =>
  tstv x55 (bndV (rNilc x16) fun x57 =>
  bndV (rFa 8 x57) fun x58 =>
  bndV (rLd h x58) fun x59 =>
  bndC (f256 [x53] h) fun x61 h =>
  chk1 (sameE (rLd h x58) x59) (some ⟨0, [x59, x61], h⟩))
  (rc [] h)) 1000000 [] h)
  fun j vs h => unc2 vs fun x4 x5 =>
  ret1 (.tuple [x4, x5]) h
noncomputable def f193_3 (x1 : V) (x13 : V) (x14 : V) (h : HT) : Option J := bndV (rBld [(.int .i64 (.ofNat (nat_lit 0))), (.int .i64 (.ofNat (nat_lit 0))), (.int .i64 (.ofNat (nat_lit 0))), (.int .i64 (.ofNat (nat_lit 0))), (.int .i64 (.ofNat (nat_lit 0))), (.int .i64 (.ofNat (nat_lit 0))), (.int .i64 (.ofNat (nat_lit 0))), (.map none), (.slice none 0 true 0)] [(0, 7), (7, 1)] [x13, x14]) fun x15 =>
  bndN (rBox x15) h fun x16 h =>
  bndV (rLenS x1) fun x18 =>
  bndJ (loopF (fun rc vs h => unc1 vs fun x19 =>
  bndV (rLss x19 x18) fun x20 =>
  tstv x20 (bndJ (bndV (rIaS 23 x1 x19) fun x21 =>
  (f193_1 x16 x21 h))
  fun j vs h => bndV (rAdd x19 (.int .i64 (.ofNat (nat_lit 1)))) fun x48 =>
  rc [x48] h)
  (some ⟨0, [], h⟩)) 1000000 [(.int .i64 (.ofNat (nat_lit 0)))] h)
  fun j vs h => (f193_2 x16 h)
noncomputable def f193 (vs : List V) (h : HT) : Option J := unc2 vs fun x0 x1 =>
  bndN (rBox x0) h fun x2 h =>
  bndV (rLdN h 7 x2) fun x13 =>
  bndN (kMkM []) h fun x14 h =>
  (f193_3 x1 x13 x14 h)

/- (*concord/log.Log).List -/
noncomputable def l204 : List (Nat × (List V → HT → Option J)) := [(270, f270)]
noncomputable def t204 : Fns := tab l204
noncomputable def f204_0 (x9 : V) (h : HT) : Option J := bndJ (loopF (fun rc vs h => unc1 vs fun x3 =>
  bndE (dNx h [x9]) h fun x10 h =>
  bndV (rExt 0 x10) fun x11 =>
  tstv x11 (bndV (kEnt h.heap [x9]) fun x12 =>
  bndV (rExt 0 x12) fun x13 =>
  bndN (rAlloc [(.int .i64 (.ofNat (nat_lit 0))), (.int .i64 (.ofNat (nat_lit 0)))] []) h fun x4 h =>
  bndE (rSt h 2 x4 x13) h fun _ h =>
  bndV (rLdN h 2 x4) fun x15 =>
  bndN (rBsl 2 1 [(.int .i64 (.ofNat (nat_lit 0))), (.int .i64 (.ofNat (nat_lit 0)))] [(0, 2)] [x15]) h fun x16 h =>
  bndE (dApp h 2 16 [x3, x16]) h fun x17 h =>
  rc [x17] h)
  (some ⟨0, [x3], h⟩)) 1000000 [(.slice none 0 true 0)] h)
  fun j vs h => unc1 vs fun x3 =>
  bndC (f270 [x3, (.func 271 [])] h) fun x19 h =>
  ret1 x3 h
noncomputable def f204 (vs : List V) (h : HT) : Option J := unc1 vs fun x0 =>
  bndV (rNilc x0) fun x6 =>
  bndV (rFa 0 x6) fun x7 =>
  bndV (rLd h x7) fun x8 =>
  bndN (kRng h.heap [x8]) h fun x9 h =>
  (f204_0 x9 h)

/- (*concord/core.Core).Cells -/
noncomputable def l123 : List (Nat × (List V → HT → Option J)) := [(204, f204)]
noncomputable def t123 : Fns := tab l123

noncomputable def f123 (vs : List V) (h : HT) : Option J := unc1 vs fun x0 =>
  bndV (rNilc x0) fun x4 =>
  bndV (rFa 2 x4) fun x5 =>
  bndV (rLd h x5) fun x6 =>
  bndC (f204 [x6] h) fun x7 h =>
  ret1 x7 h

/- (*concord/log.Log).Cell -/
noncomputable def l205 : List (Nat × (List V → HT → Option J)) := []
noncomputable def t205 : Fns := tab l205
noncomputable def f205_0 (x4 : V) (x12 : V) (x13 : V) (h : HT) : Option J := bndV (kLkp h.heap true [.i, .i] (.agg [(.int .i64 (.ofNat (nat_lit 0))), (.int .i64 (.ofNat (nat_lit 0))), (.int .i64 (.ofNat (nat_lit 0))), (.int .i64 (.ofNat (nat_lit 0))), (.int .i64 (.ofNat (nat_lit 0))), (.int .i64 (.ofNat (nat_lit 0))), (.int .i64 (.ofNat (nat_lit 0))), (.int .i64 (.ofNat (nat_lit 0))), (.str (sb [])), (.str (sb [])), (.str (sb [])), (.str (sb [])), (.int .i64 (.ofNat (nat_lit 0))), (.int .i64 (.ofNat (nat_lit 0))), (.int .i64 (.ofNat (nat_lit 0))), (.int .i64 (.ofNat (nat_lit 0))), (.int .i64 (.ofNat (nat_lit 0))), (.int .i64 (.ofNat (nat_lit 0))), (.int .i64 (.ofNat (nat_lit 0))), (.int .i64 (.ofNat (nat_lit 0))), (.bool false)]) true [x12, x13]) fun x14 =>
  bndV (rExt 0 x14) fun x15 =>
  bndV (rExt 1 x14) fun x16 =>
  bndN (rAlloc [(.int .i64 (.ofNat (nat_lit 0))), (.int .i64 (.ofNat (nat_lit 0))), (.int .i64 (.ofNat (nat_lit 0))), (.int .i64 (.ofNat (nat_lit 0))), (.int .i64 (.ofNat (nat_lit 0))), (.int .i64 (.ofNat (nat_lit 0))), (.int .i64 (.ofNat (nat_lit 0))), (.int .i64 (.ofNat (nat_lit 0))), (.str (sb [])), (.str (sb [])), (.str (sb [])), (.str (sb [])), (.int .i64 (.ofNat (nat_lit 0))), (.int .i64 (.ofNat (nat_lit 0))), (.int .i64 (.ofNat (nat_lit 0))), (.int .i64 (.ofNat (nat_lit 0))), (.int .i64 (.ofNat (nat_lit 0))), (.int .i64 (.ofNat (nat_lit 0))), (.int .i64 (.ofNat (nat_lit 0))), (.int .i64 (.ofNat (nat_lit 0))), (.bool false)] []) h fun x6 h =>
  bndE (rSt h 21 x6 x15) h fun _ h =>
  bndV (rNot x16) fun x18 =>
  tstv x18 (bndV (rBld [(.int .i64 (.ofNat (nat_lit 0))), (.int .i64 (.ofNat (nat_lit 0))), (.int .i64 (.ofNat (nat_lit 0))), (.int .i64 (.ofNat (nat_lit 0))), (.int .i64 (.ofNat (nat_lit 0))), (.int .i64 (.ofNat (nat_lit 0))), (.int .i64 (.ofNat (nat_lit 0))), (.int .i64 (.ofNat (nat_lit 0))), (.str (sb [])), (.str (sb [])), (.str (sb [])), (.str (sb [])), (.int .i64 (.ofNat (nat_lit 0))), (.int .i64 (.ofNat (nat_lit 0))), (.int .i64 (.ofNat (nat_lit 0))), (.int .i64 (.ofNat (nat_lit 0))), (.int .i64 (.ofNat (nat_lit 0))), (.int .i64 (.ofNat (nat_lit 0))), (.int .i64 (.ofNat (nat_lit 0))), (.int .i64 (.ofNat (nat_lit 0))), (.bool false)] [] []) fun x19 =>
  bndE (rSt h 21 x4 x19) h fun _ h =>
  bndV (qLd h (some 21) [x4]) fun x900000 =>
  ret1 (.tuple [x900000, (.bool false)]) h)
  (bndV (rLdN h 21 x6) fun x20 =>
  bndE (rSt h 21 x4 x20) h fun _ h =>
  bndV (qLd h (some 21) [x4]) fun x900000 =>
  ret1 (.tuple [x900000, (.bool true)]) h)
noncomputable def f205 (vs : List V) (h : HT) : Option J := unc2 vs fun x0 x1 =>
  bndN (rBox x1) h fun x3 h =>
  bndN (rAlloc [(.int .i64 (.ofNat (nat_lit 0))), (.int .i64 (.ofNat (nat_lit 0))), (.int .i64 (.ofNat (nat_lit 0))), (.int .i64 (.ofNat (nat_lit 0))), (.int .i64 (.ofNat (nat_lit 0))), (.int .i64 (.ofNat (nat_lit 0))), (.int .i64 (.ofNat (nat_lit 0))), (.int .i64 (.ofNat (nat_lit 0))), (.str (sb [])), (.str (sb [])), (.str (sb [])), (.str (sb [])), (.int .i64 (.ofNat (nat_lit 0))), (.int .i64 (.ofNat (nat_lit 0))), (.int .i64 (.ofNat (nat_lit 0))), (.int .i64 (.ofNat (nat_lit 0))), (.int .i64 (.ofNat (nat_lit 0))), (.int .i64 (.ofNat (nat_lit 0))), (.int .i64 (.ofNat (nat_lit 0))), (.int .i64 (.ofNat (nat_lit 0))), (.bool false)] []) h fun x4 h =>
  bndV (rNilc x0) fun x10 =>
  bndV (rFa 0 x10) fun x11 =>
  bndV (rLd h x11) fun x12 =>
  bndV (rLdN h 2 x3) fun x13 =>
  (f205_0 x4 x12 x13 h)

/- (*concord/core.Core).Cell -/
noncomputable def l124 : List (Nat × (List V → HT → Option J)) := [(205, f205)]
noncomputable def t124 : Fns := tab l124

noncomputable def f124 (vs : List V) (h : HT) : Option J := unc2 vs fun x0 x1 =>
  bndN (rBox x1) h fun x3 h =>
  bndN (rAlloc [(.int .i64 (.ofNat (nat_lit 0))), (.int .i64 (.ofNat (nat_lit 0))), (.int .i64 (.ofNat (nat_lit 0))), (.int .i64 (.ofNat (nat_lit 0))), (.int .i64 (.ofNat (nat_lit 0))), (.int .i64 (.ofNat (nat_lit 0))), (.int .i64 (.ofNat (nat_lit 0))), (.int .i64 (.ofNat (nat_lit 0))), (.str (sb [])), (.str (sb [])), (.str (sb [])), (.str (sb [])), (.int .i64 (.ofNat (nat_lit 0))), (.int .i64 (.ofNat (nat_lit 0))), (.int .i64 (.ofNat (nat_lit 0))), (.int .i64 (.ofNat (nat_lit 0))), (.int .i64 (.ofNat (nat_lit 0))), (.int .i64 (.ofNat (nat_lit 0))), (.int .i64 (.ofNat (nat_lit 0))), (.int .i64 (.ofNat (nat_lit 0))), (.bool false)] []) h fun x4 h =>
  bndV (rNilc x0) fun x7 =>
  bndV (rFa 2 x7) fun x8 =>
  bndV (rLd h x8) fun x9 =>
  bndV (rLdN h 2 x3) fun x10 =>
  bndC (f205 [x9, x10] h) fun x11 h =>
  bndV (rExt 0 x11) fun x12 =>
  bndV (rExt 1 x11) fun x13 =>
  bndE (rSt h 21 x4 x12) h fun _ h =>
  bndV (qLd h (some 21) [x4]) fun x900000 =>
  ret1 (.tuple [x900000, x13]) h

/- (*concord/node.Node).committed -/
noncomputable def l194 : List (Nat × (List V → HT → Option J)) := [(123, f123), (124, f124)]
noncomputable def t194 : Fns := tab l194
noncomputable def f194_0 (rc : List V → HT → Option J) (x3 : V) (x5 : V) (x6 : V) (x14 : V) (x36 : V) (x38 : V) (h : HT) : Option J := bndC (gsel x36 true (retV (rLd h x38) h) h) fun x39 h =>
  bndC (gsel x36 true (retV (rEql x39 (.int .i64 (.ofNat (nat_lit 3)))) h) h) fun x40 h =>
  bndV (rPick x36 x40 (.bool false)) fun x41 =>
  bndJ (tstv x41 (bndV (rLdN h 2 x5) fun x43 =>
  bndV (rLdN h 21 x6) fun x44 =>
  bndV (rBld [(.int .i64 (.ofNat (nat_lit 0))), (.int .i64 (.ofNat (nat_lit 0))), (.int .i64 (.ofNat (nat_lit 0))), (.int .i64 (.ofNat (nat_lit 0))), (.int .i64 (.ofNat (nat_lit 0))), (.int .i64 (.ofNat (nat_lit 0))), (.int .i64 (.ofNat (nat_lit 0))), (.int .i64 (.ofNat (nat_lit 0))), (.int .i64 (.ofNat (nat_lit 0))), (.int .i64 (.ofNat (nat_lit 0))), (.str (sb [])), (.str (sb [])), (.str (sb [])), (.str (sb [])), (.int .i64 (.ofNat (nat_lit 0))), (.int .i64 (.ofNat (nat_lit 0))), (.int .i64 (.ofNat (nat_lit 0))), (.int .i64 (.ofNat (nat_lit 0))), (.int .i64 (.ofNat (nat_lit 0))), (.int .i64 (.ofNat (nat_lit 0))), (.int .i64 (.ofNat (nat_lit 0))), (.int .i64 (.ofNat (nat_lit 0))), (.bool false)] [(0, 2), (2, 21)] [x43, x44]) fun x45 =>
  bndN (rBsl 23 1 [(.int .i64 (.ofNat (nat_lit 0))), (.int .i64 (.ofNat (nat_lit 0))), (.int .i64 (.ofNat (nat_lit 0))), (.int .i64 (.ofNat (nat_lit 0))), (.int .i64 (.ofNat (nat_lit 0))), (.int .i64 (.ofNat (nat_lit 0))), (.int .i64 (.ofNat (nat_lit 0))), (.int .i64 (.ofNat (nat_lit 0))), (.int .i64 (.ofNat (nat_lit 0))), (.int .i64 (.ofNat (nat_lit 0))), (.str (sb [])), (.str (sb [])), (.str (sb [])), (.str (sb [])), (.int .i64 (.ofNat (nat_lit 0))), (.int .i64 (.ofNat (nat_lit 0))), (.int .i64 (.ofNat (nat_lit 0))), (.int .i64 (.ofNat (nat_lit 0))), (.int .i64 (.ofNat (nat_lit 0))), (.int .i64 (.ofNat (nat_lit 0))), (.int .i64 (.ofNat (nat_lit 0))), (.int .i64 (.ofNat (nat_lit 0))), (.bool false)] [(0, 23)] [x45]) h fun x46 h =>
  bndE (dApp h 23 216 [x3, x46]) h fun x47 h =>
  some ⟨0, [x47], h⟩)
  (some ⟨0, [x3], h⟩))
  fun j vs h => unc1 vs fun x3 =>
  bndV (rAdd x14 (.int .i64 (.ofNat (nat_lit 1)))) fun x48 =>
  rc [x3, x48] h
noncomputable def f194_1 (rc : List V → HT → Option J) (x0 : V) (x3 : V) (x5 : V) (x6 : V) (x14 : V) (x22 : V) (x23 : V) (h : HT) : Option J := bndC (f124 [x22, x23] h) fun x24 h =>
  bndV (rExt 0 x24) fun x25 =>
  bndV (rExt 1 x24) fun x26 =>
  bndE (rSt h 21 x6 x25) h fun _ h =>
  bndV (rFa 1 x5) fun x27 =>
  bndV (rLd h x27) fun x28 =>
  bndV (rFa 0 x5) fun x30 =>
  bndV (rLd h x30) fun x31 =>
  bndV (rNilc x0) fun x32 =>
  bndV (rFa 55 x32) fun x33 =>
  bndV (rIaA 7 1 x33 x31) fun x34 =>
  bndV (rLd h x34) fun x35 =>
  bndV (rGtr x28 x35) fun x36 =>
  bndC (gsel x36 true (retV (rFa 0 x6) h) h) fun x38 h =>
  (f194_0 rc x3 x5 x6 x14 x36 x38 h)
noncomputable def f194_2 (x0 : V) (x12 : V) (x13 : V) (h : HT) : Option J := loopF (fun rc vs h => unc2 vs fun x3 x14 =>
  bndV (rLss x14 x13) fun x15 =>
  tstv x15 (bndV (rIaS 2 x12 x14) fun x16 =>
  bndV (rLdN h 2 x16) fun x17 =>
  bndN (rAlloc [(.int .i64 (.ofNat (nat_lit 0))), (.int .i64 (.ofNat (nat_lit 0)))] []) h fun x5 h =>
  bndE (rSt h 2 x5 x17) h fun _ h =>
  bndV (rNilc x0) fun x20 =>
  bndV (rFa 4 x20) fun x21 =>
  bndV (rLd h x21) fun x22 =>
  bndV (rLdN h 2 x5) fun x23 =>
  bndN (rAlloc [(.int .i64 (.ofNat (nat_lit 0))), (.int .i64 (.ofNat (nat_lit 0))), (.int .i64 (.ofNat (nat_lit 0))), (.int .i64 (.ofNat (nat_lit 0))), (.int .i64 (.ofNat (nat_lit 0))), (.int .i64 (.ofNat (nat_lit 0))), (.int .i64 (.ofNat (nat_lit 0))), (.int .i64 (.ofNat (nat_lit 0))), (.str (sb [])), (.str (sb [])), (.str (sb [])), (.str (sb [])), (.int .i64 (.ofNat (nat_lit 0))), (.int .i64 (.ofNat (nat_lit 0))), (.int .i64 (.ofNat (nat_lit 0))), (.int .i64 (.ofNat (nat_lit 0))), (.int .i64 (.ofNat (nat_lit 0))), (.int .i64 (.ofNat (nat_lit 0))), (.int .i64 (.ofNat (nat_lit 0))), (.int .i64 (.ofNat (nat_lit 0))), (.bool false)] []) h fun x6 h =>
  (f194_1 rc x0 x3 x5 x6 x14 x22 x23 h))
  (some ⟨0, [x3], h⟩)) 1000000 [(.slice none 0 true 0), (.int .i64 (.ofNat (nat_lit 0)))] h
noncomputable def f194 (vs : List V) (h : HT) : Option J := unc1 vs fun x0 =>
  bndV (rNilc x0) fun x9 =>
  bndV (rFa 4 x9) fun x10 =>
  bndV (rLd h x10) fun x11 =>
  bndC (f123 [x11] h) fun x12 h =>
  bndV (rLenS x12) fun x13 =>
  bndJ ((f194_2 x0 x12 x13 h))
  fun j vs h => unc1 vs fun x3 =>
  ret1 x3 h

/- concord/cmd.within -/
noncomputable def l121 : List (Nat × (List V → HT → Option J)) := []
noncomputable def t121 : Fns := tab l121

noncomputable def f121 (vs : List V) (h : HT) : Option J := unc2 vs fun x0 x1 =>
  bndV (rGeq x0 (.int .i64 (.ofNat (nat_lit 1)))) fun x6 =>
  bndC (gsel x6 true (retV (kMov [x0]) h) h) fun x8 h =>
  bndC (gsel x6 true (retV (kMov [x1]) h) h) fun x9 h =>
  bndC (gsel x6 true (retV (rLeq x8 x9) h) h) fun x10 h =>
  bndV (rPick x6 x10 (.bool false)) fun x11 =>
  ret1 x11 h

/- concord/cmd.bare -/
noncomputable def l122 : List (Nat × (List V → HT → Option J)) := []
noncomputable def t122 : Fns := tab l122
noncomputable def f122_0 (x1 : V) (x3 : V) (x14 : V) (x21 : V) (h : HT) : Option J := tstv x21 (bndV (rFa 5 x1) fun x22 =>
  bndV (rLd h x22) fun x23 =>
  bndV (rFa 6 x1) fun x24 =>
  bndV (rLd h x24) fun x25 =>
  bndV (rFa 5 x3) fun x26 =>
  bndE (rSt h 1 x26 x23) h fun _ h =>
  chk1 (sameE (rLd h x24) x25) (bndV (rFa 6 x3) fun x27 =>
  bndE (rSt h 1 x27 x25) h fun _ h =>
  some ⟨0, [], h⟩))
  (bndV (rEql x14 (.int .i64 (.ofNat (nat_lit 5)))) fun x29 =>
  bndJ (tstv x29 (bndV (rFa 4 x1) fun x30 =>
  bndV (rLd h x30) fun x31 =>
  bndV (rFa 4 x3) fun x32 =>
  bndE (rSt h 1 x32 x31) h fun _ h =>
  some ⟨0, [], h⟩)
  (some ⟨0, [], h⟩))
  fun j vs h => some ⟨0, [], h⟩)
noncomputable def f122_1 (x1 : V) (x2 : V) (x3 : V) (x14 : V) (x16 : V) (h : HT) : Option J := bndJ (tstv x16 (bndV (rFa 6 x1) fun x17 =>
  bndV (rLd h x17) fun x18 =>
  bndV (rFa 6 x3) fun x19 =>
  bndE (rSt h 1 x19 x18) h fun _ h =>
  some ⟨0, [], h⟩)
  (bndV (rEql x14 (.int .i64 (.ofNat (nat_lit 4)))) fun x21 =>
  bndJ ((f122_0 x1 x3 x14 x21 h))
  fun j vs h => some ⟨0, [], h⟩))
  fun j vs h => bndV (rLdN h 7 x3) fun x33 =>
  bndE (rSt h 7 x2 x33) h fun _ h =>
  bndV (qLd h (some 7) [x2]) fun x900000 =>
  ret1 x900000 h
noncomputable def f122_2 (x1 : V) (x2 : V) (h : HT) : Option J := bndV (rFa 0 x1) fun x4 =>
  bndV (rLd h x4) fun x5 =>
  bndV (rFa 1 x1) fun x6 =>
  bndV (rLd h x6) fun x7 =>
  bndV (rFa 2 x1) fun x8 =>
  bndV (rLd h x8) fun x9 =>
  bndV (rFa 3 x1) fun x10 =>
  bndV (rLd h x10) fun x11 =>
  bndV (rBld [(.int .i64 (.ofNat (nat_lit 0))), (.int .i64 (.ofNat (nat_lit 0))), (.int .i64 (.ofNat (nat_lit 0))), (.str (sb [])), (.str (sb [])), (.str (sb [])), (.str (sb []))] [(0, 1), (1, 1), (2, 1), (3, 1)] [x5, x7, x9, x11]) fun x12 =>
  bndN (rAlloc [(.int .i64 (.ofNat (nat_lit 0))), (.int .i64 (.ofNat (nat_lit 0))), (.int .i64 (.ofNat (nat_lit 0))), (.str (sb [])), (.str (sb [])), (.str (sb [])), (.str (sb []))] []) h fun x3 h =>
  bndE (rSt h 7 x3 x12) h fun _ h =>
  bndV (rFa 0 x1) fun x13 =>
  bndV (rLd h x13) fun x14 =>
  bndV (rEql x14 (.int .i64 (.ofNat (nat_lit 2)))) fun x16 =>
  (f122_1 x1 x2 x3 x14 x16 h)
noncomputable def f122 (vs : List V) (h : HT) : Option J := unc1 vs fun x0 =>
  bndN (rBox x0) h fun x1 h =>
  bndN (rAlloc [(.int .i64 (.ofNat (nat_lit 0))), (.int .i64 (.ofNat (nat_lit 0))), (.int .i64 (.ofNat (nat_lit 0))), (.str (sb [])), (.str (sb [])), (.str (sb [])), (.str (sb []))] []) h fun x2 h =>
  (f122_2 x1 x2 h)

/- concord/cmd.Right -/
noncomputable def l48 : List (Nat × (List V → HT → Option J)) := [(121, f121), (122, f122)]
noncomputable def t48 : Fns := tab l48
noncomputable def f48_0 (x1 : V) (x44 : V) (x46 : V) (h : HT) : Option J := bndC (gsel x44 false (retV (rLd h x46) h) h) fun x47 h =>
  bndC (gsel x44 false (retV (kLenT [x47]) h) h) fun x48 h =>
  bndC (gsel x44 false (retV (rGtr x48 (.int .i64 (.ofNat (nat_lit 64)))) h) h) fun x49 h =>
  bndV (rPick x44 (.bool true) x49) fun x50 =>
  bndV (rNot x50) fun x52 =>
  bndC (gsel x52 true (retV (rFa 3 x1) h) h) fun x54 h =>
  bndC (gsel x52 true (retV (rLd h x54) h) h) fun x55 h =>
  bndC (gsel x52 true (retV (rNeq x55 (.str (sb []))) h) h) fun x56 h =>
  bndC (gsel x52 true (retV (kMov [x56]) h) h) fun x57 h =>
  bndC (gsel x57 false (retV (rFa 0 x1) h) h) fun x58 h =>
  bndC (gsel x57 false (retV (rLd h x58) h) h) fun x59 h =>
  bndC (gsel x57 false (retV (rEql x59 (.int .i64 (.ofNat (nat_lit 5)))) h) h) fun x60 h =>
  bndC (gsel x52 true (retV (rPick x57 (.bool true) x60) h) h) fun x61 h =>
  bndV (rPick x52 x61 (.bool false)) fun x62 =>
  ret1 x62 h
noncomputable def f48_1 (x1 : V) (x29 : V) (h : HT) : Option J := bndV (rLd h x29) fun x30 =>
  bndV (kLenT [x30]) fun x31 =>
  bndV (rGtr x31 (.int .i64 (.ofNat (nat_lit 16)))) fun x32 =>
  bndC (gsel x32 false (retV (rFa 4 x1) h) h) fun x34 h =>
  bndC (gsel x32 false (retV (rLd h x34) h) h) fun x35 h =>
  bndC (gsel x32 false (retV (kLenT [x35]) h) h) fun x36 h =>
  bndC (gsel x32 false (retV (rGtr x36 (.int .i64 (.ofNat (nat_lit 16)))) h) h) fun x37 h =>
  bndV (rPick x32 (.bool true) x37) fun x38 =>
  bndC (gsel x38 false (retV (rFa 5 x1) h) h) fun x40 h =>
  bndC (gsel x38 false (retV (rLd h x40) h) h) fun x41 h =>
  bndC (gsel x38 false (retV (kLenT [x41]) h) h) fun x42 h =>
  bndC (gsel x38 false (retV (rGtr x42 (.int .i64 (.ofNat (nat_lit 64)))) h) h) fun x43 h =>
  bndV (rPick x38 (.bool true) x43) fun x44 =>
  bndC (gsel x44 false (retV (rFa 6 x1) h) h) fun x46 h =>
  (f48_0 x1 x44 x46 h)
noncomputable def f48_2 (x1 : V) (x16 : V) (h : HT) : Option J := bndC (gsel x16 false (retV (rFa 2 x1) h) h) fun x18 h =>
  bndC (gsel x16 false (retV (rLd h x18) h) h) fun x19 h =>
  bndC (gsel x16 false (f121 [x19, (.int .i64 (.ofNat (nat_lit 1099511627776)))] h) h) fun x20 h =>
  bndC (gsel x16 false (retV (rNot x20) h) h) fun x21 h =>
  bndV (rPick x16 (.bool true) x21) fun x22 =>
  bndC (gsel x22 false (retV (rLdN h 7 x1) h) h) fun x24 h =>
  bndC (gsel x22 false (retV (rLdN h 7 x1) h) h) fun x25 h =>
  bndC (gsel x22 false (f122 [x25] h) h) fun x26 h =>
  chk1 (gchk x22 false (sameE (rLdN h 7 x1) x24)) (bndC (gsel x22 false (retV (kEqF true [.i, .i, .i, .s, .s, .s, .s] [x24, x26]) h) h) fun x27 h =>
  bndV (rPick x22 (.bool true) x27) fun x28 =>
  tstv x28 (ret1 (.bool false) h)
  (bndV (rFa 3 x1) fun x29 =>
  (f48_1 x1 x29 h)))
noncomputable def f48_3 (x1 : V) (h : HT) : Option J := bndV (rLdN h 7 x1) fun x4 =>
  bndV (rBld [(.int .i64 (.ofNat (nat_lit 0))), (.int .i64 (.ofNat (nat_lit 0))), (.int .i64 (.ofNat (nat_lit 0))), (.str (sb [])), (.str (sb [])), (.str (sb [])), (.str (sb []))] [] []) fun x5 =>
  bndV (kEqF false [.i, .i, .i, .s, .s, .s, .s] [x4, x5]) fun x6 =>
  tstv x6 (ret1 (.bool true) h)
  (bndV (rFa 0 x1) fun x7 =>
  bndV (rLd h x7) fun x8 =>
  bndC (f121 [x8, (.int .i64 (.ofNat (nat_lit 5)))] h) fun x9 h =>
  bndV (rNot x9) fun x10 =>
  bndC (gsel x10 false (retV (rFa 1 x1) h) h) fun x12 h =>
  bndC (gsel x10 false (retV (rLd h x12) h) h) fun x13 h =>
  bndC (gsel x10 false (f121 [x13, (.int .i64 (.ofNat (nat_lit 8)))] h) h) fun x14 h =>
  bndC (gsel x10 false (retV (rNot x14) h) h) fun x15 h =>
  bndV (rPick x10 (.bool true) x15) fun x16 =>
  (f48_2 x1 x16 h))
noncomputable def f48 (vs : List V) (h : HT) : Option J := unc1 vs fun x0 =>
  bndN (rBox x0) h fun x1 h =>
  (f48_3 x1 h)

/- slices.Clone[[]concord/api.Pair,concord/api.Pair] -/
noncomputable def l70 : List (Nat × (List V → HT → Option J)) := []
noncomputable def t70 : Fns := tab l70

noncomputable def f70 (vs : List V) (h : HT) : Option J := unc1 vs fun x0 =>
  bndV (kEqN false [x0, (.slice none 0 true 0)]) fun x4 =>
  tstv x4 (ret1 (.slice none 0 true 0) h)
  (bndN (rBsl 3 0 [] [] []) h fun x5 h =>
  bndE (dApp h 3 40 [x5, x0]) h fun x7 h =>
  ret1 x7 h)

/- concord/dedup.known -/
noncomputable def l311 : List (Nat × (List V → HT → Option J)) := []
noncomputable def t311 : Fns := tab l311

noncomputable def f311 (vs : List V) (h : HT) : Option J := unc1 vs fun x0 =>
  bndV (rGeq x0 (.int .i64 (.ofNat (nat_lit 1)))) fun x4 =>
  bndC (gsel x4 true (retV (kMov [x0]) h) h) fun x6 h =>
  bndC (gsel x4 true (retV (rLeq x6 (.int .i64 (.ofNat (nat_lit 8)))) h) h) fun x7 h =>
  bndV (rPick x4 x7 (.bool false)) fun x8 =>
  ret1 x8 h

/- concord/dedup.copied -/
noncomputable def l312 : List (Nat × (List V → HT → Option J)) := [(70, f70)]
noncomputable def t312 : Fns := tab l312

noncomputable def f312 (vs : List V) (h : HT) : Option J := unc1 vs fun x0 =>
  bndN (rBox x0) h fun x1 h =>
  bndN (rAlloc [(.int .i64 (.ofNat (nat_lit 0))), (.bool false), (.str (sb [])), (.int .i64 (.ofNat (nat_lit 0))), (.slice none 0 true 0)] []) h fun x2 h =>
  bndV (rFa 4 x1) fun x3 =>
  bndV (rLd h x3) fun x4 =>
  bndC (f70 [x4] h) fun x5 h =>
  bndV (rFa 4 x1) fun x6 =>
  bndE (rSt h 1 x6 x5) h fun _ h =>
  bndV (rLdN h 5 x1) fun x7 =>
  bndE (rSt h 5 x2 x7) h fun _ h =>
  bndV (qLd h (some 5) [x2]) fun x900000 =>
  ret1 x900000 h

/- concord/dedup.Note -/
noncomputable def l259 : List (Nat × (List V → HT → Option J)) := [(311, f311), (312, f312)]
noncomputable def t259 : Fns := tab l259
noncomputable def f259_0 (x4 : V) (x8 : V) (h : HT) : Option J := bndJ (loopF (fun rc vs h => unc1 vs fun x18 =>
  bndV (rLss x18 (.int .i64 (.ofNat (nat_lit 8)))) fun x19 =>
  tstv x19 (bndV (rIaA 8 6 x4 x18) fun x23 =>
  bndV (rFa 1 x23) fun x24 =>
  bndV (rLdN h 5 x24) fun x25 =>
  bndC (f312 [x25] h) fun x26 h =>
  bndV (rIaA 8 6 x4 x18) fun x27 =>
  bndV (rFa 1 x27) fun x28 =>
  bndE (rSt h 5 x28 x26) h fun _ h =>
  bndV (rAdd x18 (.int .i64 (.ofNat (nat_lit 1)))) fun x29 =>
  rc [x29] h)
  (some ⟨0, [], h⟩)) 1000000 [(.int .i64 (.ofNat (nat_lit 0)))] h)
  fun j vs h => bndV (rLdN h 48 x4) fun x30 =>
  bndE (rSt h 48 x8 x30) h fun _ h =>
  bndV (qLd h (some 48) [x8]) fun x900000 =>
  ret1 x900000 h
noncomputable def f259 (vs : List V) (h : HT) : Option J := unc4 vs fun x0 x1 x2 x3 vs =>
  bndN (rBox x0) h fun x4 h =>
  bndN (rBox x3) h fun x7 h =>
  bndN (rAlloc [(.int .i64 (.ofNat (nat_lit 0))), (.int .i64 (.ofNat (nat_lit 0))), (.bool false), (.str (sb [])), (.int .i64 (.ofNat (nat_lit 0))), (.slice none 0 true 0), (.int .i64 (.ofNat (nat_lit 0))), (.int .i64 (.ofNat (nat_lit 0))), (.bool false), (.str (sb [])), (.int .i64 (.ofNat (nat_lit 0))), (.slice none 0 true 0), (.int .i64 (.ofNat (nat_lit 0))), (.int .i64 (.ofNat (nat_lit 0))), (.bool false), (.str (sb [])), (.int .i64 (.ofNat (nat_lit 0))), (.slice none 0 true 0), (.int .i64 (.ofNat (nat_lit 0))), (.int .i64 (.ofNat (nat_lit 0))), (.bool false), (.str (sb [])), (.int .i64 (.ofNat (nat_lit 0))), (.slice none 0 true 0), (.int .i64 (.ofNat (nat_lit 0))), (.int .i64 (.ofNat (nat_lit 0))), (.bool false), (.str (sb [])), (.int .i64 (.ofNat (nat_lit 0))), (.slice none 0 true 0), (.int .i64 (.ofNat (nat_lit 0))), (.int .i64 (.ofNat (nat_lit 0))), (.bool false), (.str (sb [])), (.int .i64 (.ofNat (nat_lit 0))), (.slice none 0 true 0), (.int .i64 (.ofNat (nat_lit 0))), (.int .i64 (.ofNat (nat_lit 0))), (.bool false), (.str (sb [])), (.int .i64 (.ofNat (nat_lit 0))), (.slice none 0 true 0), (.int .i64 (.ofNat (nat_lit 0))), (.int .i64 (.ofNat (nat_lit 0))), (.bool false), (.str (sb [])), (.int .i64 (.ofNat (nat_lit 0))), (.slice none 0 true 0)] []) h fun x8 h =>
  bndC (f311 [x1] h) fun x11 h =>
  bndJ (tstv x11 (bndV (rSub x1 (.int .i64 (.ofNat (nat_lit 1)))) fun x13 =>
  bndV (rLdN h 5 x7) fun x15 =>
  bndV (rBld [(.int .i64 (.ofNat (nat_lit 0))), (.int .i64 (.ofNat (nat_lit 0))), (.bool false), (.str (sb [])), (.int .i64 (.ofNat (nat_lit 0))), (.slice none 0 true 0)] [(0, 1), (1, 5)] [x2, x15]) fun x16 =>
  bndV (rIaA 8 6 x4 x13) fun x17 =>
  bndE (rSt h 6 x17 x16) h fun _ h =>
  some ⟨0, [], h⟩)
  (some ⟨0, [], h⟩))
  fun j vs h => (f259_0 x4 x8 h)

/- concord/state.copied -/
noncomputable def l203 : List (Nat × (List V → HT → Option J)) := [(70, f70), (259, f259)]
noncomputable def t203 : Fns := tab l203

noncomputable def f203 (vs : List V) (h : HT) : Option J := unc1 vs fun x0 =>
  bndN (rBox x0) h fun x1 h =>
  bndN (rAlloc [(.slice none 0 true 0), (.int .i64 (.ofNat (nat_lit 0))), (.int .i64 (.ofNat (nat_lit 0))), (.bool false), (.str (sb [])), (.int .i64 (.ofNat (nat_lit 0))), (.slice none 0 true 0), (.int .i64 (.ofNat (nat_lit 0))), (.int .i64 (.ofNat (nat_lit 0))), (.bool false), (.str (sb [])), (.int .i64 (.ofNat (nat_lit 0))), (.slice none 0 true 0), (.int .i64 (.ofNat (nat_lit 0))), (.int .i64 (.ofNat (nat_lit 0))), (.bool false), (.str (sb [])), (.int .i64 (.ofNat (nat_lit 0))), (.slice none 0 true 0), (.int .i64 (.ofNat (nat_lit 0))), (.int .i64 (.ofNat (nat_lit 0))), (.bool false), (.str (sb [])), (.int .i64 (.ofNat (nat_lit 0))), (.slice none 0 true 0), (.int .i64 (.ofNat (nat_lit 0))), (.int .i64 (.ofNat (nat_lit 0))), (.bool false), (.str (sb [])), (.int .i64 (.ofNat (nat_lit 0))), (.slice none 0 true 0), (.int .i64 (.ofNat (nat_lit 0))), (.int .i64 (.ofNat (nat_lit 0))), (.bool false), (.str (sb [])), (.int .i64 (.ofNat (nat_lit 0))), (.slice none 0 true 0), (.int .i64 (.ofNat (nat_lit 0))), (.int .i64 (.ofNat (nat_lit 0))), (.bool false), (.str (sb [])), (.int .i64 (.ofNat (nat_lit 0))), (.slice none 0 true 0), (.int .i64 (.ofNat (nat_lit 0))), (.int .i64 (.ofNat (nat_lit 0))), (.bool false), (.str (sb [])), (.int .i64 (.ofNat (nat_lit 0))), (.slice none 0 true 0)] []) h fun x2 h =>
  bndV (rFa 0 x1) fun x3 =>
  bndV (rLd h x3) fun x4 =>
  bndV (rFa 1 x1) fun x6 =>
  bndV (rLdN h 48 x6) fun x7 =>
  bndV (rBld [(.int .i64 (.ofNat (nat_lit 0))), (.bool false), (.str (sb [])), (.int .i64 (.ofNat (nat_lit 0))), (.slice none 0 true 0)] [] []) fun x8 =>
  bndC (f70 [x4] h) fun x5 h =>
  chk1 (sameE (rLdN h 48 x6) x7) (bndC (f259 [x7, (.int .i64 (.ofNat (nat_lit 0))), (.int .i64 (.ofNat (nat_lit 0))), x8] h) fun x9 h =>
  bndV (rBld [(.slice none 0 true 0), (.int .i64 (.ofNat (nat_lit 0))), (.int .i64 (.ofNat (nat_lit 0))), (.bool false), (.str (sb [])), (.int .i64 (.ofNat (nat_lit 0))), (.slice none 0 true 0), (.int .i64 (.ofNat (nat_lit 0))), (.int .i64 (.ofNat (nat_lit 0))), (.bool false), (.str (sb [])), (.int .i64 (.ofNat (nat_lit 0))), (.slice none 0 true 0), (.int .i64 (.ofNat (nat_lit 0))), (.int .i64 (.ofNat (nat_lit 0))), (.bool false), (.str (sb [])), (.int .i64 (.ofNat (nat_lit 0))), (.slice none 0 true 0), (.int .i64 (.ofNat (nat_lit 0))), (.int .i64 (.ofNat (nat_lit 0))), (.bool false), (.str (sb [])), (.int .i64 (.ofNat (nat_lit 0))), (.slice none 0 true 0), (.int .i64 (.ofNat (nat_lit 0))), (.int .i64 (.ofNat (nat_lit 0))), (.bool false), (.str (sb [])), (.int .i64 (.ofNat (nat_lit 0))), (.slice none 0 true 0), (.int .i64 (.ofNat (nat_lit 0))), (.int .i64 (.ofNat (nat_lit 0))), (.bool false), (.str (sb [])), (.int .i64 (.ofNat (nat_lit 0))), (.slice none 0 true 0), (.int .i64 (.ofNat (nat_lit 0))), (.int .i64 (.ofNat (nat_lit 0))), (.bool false), (.str (sb [])), (.int .i64 (.ofNat (nat_lit 0))), (.slice none 0 true 0), (.int .i64 (.ofNat (nat_lit 0))), (.int .i64 (.ofNat (nat_lit 0))), (.bool false), (.str (sb [])), (.int .i64 (.ofNat (nat_lit 0))), (.slice none 0 true 0)] [(0, 1), (1, 48)] [x5, x9]) fun x10 =>
  bndE (rSt h 49 x2 x10) h fun _ h =>
  bndV (qLd h (some 49) [x2]) fun x900000 =>
  ret1 x900000 h)

/- concord/dedup.Look -/
noncomputable def l257 : List (Nat × (List V → HT → Option J)) := [(311, f311)]
noncomputable def t257 : Fns := tab l257
noncomputable def f257_0 (x2 : V) (x7 : V) (x8 : V) (x21 : V) (h : HT) : Option J := tstv x21 (bndV (rBld [(.int .i64 (.ofNat (nat_lit 0))), (.bool false), (.str (sb [])), (.int .i64 (.ofNat (nat_lit 0))), (.slice none 0 true 0)] [] []) fun x22 =>
  bndE (rSt h 5 x7 x22) h fun _ h =>
  bndV (qLd h (some 5) [x7]) fun x900000 =>
  ret1 (.tuple [(.int .i64 (.ofNat (nat_lit 1))), x900000]) h)
  (bndV (rFa 0 x8) fun x25 =>
  bndV (rLd h x25) fun x26 =>
  bndV (rEql x2 x26) fun x27 =>
  tstv x27 (bndV (rFa 1 x8) fun x28 =>
  bndV (rLdN h 5 x28) fun x29 =>
  bndC (noF [x29] h) fun x30 h =>
  bndE (rSt h 5 x7 x30) h fun _ h =>
  bndV (qLd h (some 5) [x7]) fun x900000 =>
  ret1 (.tuple [(.int .i64 (.ofNat (nat_lit 2))), x900000]) h)
  (bndV (rBld [(.int .i64 (.ofNat (nat_lit 0))), (.bool false), (.str (sb [])), (.int .i64 (.ofNat (nat_lit 0))), (.slice none 0 true 0)] [] []) fun x31 =>
  bndE (rSt h 5 x7 x31) h fun _ h =>
  bndV (qLd h (some 5) [x7]) fun x900000 =>
  ret1 (.tuple [(.int .i64 (.ofNat (nat_lit 3))), x900000]) h))
noncomputable def f257_1 (x1 : V) (x2 : V) (x3 : V) (x7 : V) (x10 : V) (h : HT) : Option J := bndV (rNot x10) fun x11 =>
  tstv x11 (bndV (rBld [(.int .i64 (.ofNat (nat_lit 0))), (.bool false), (.str (sb [])), (.int .i64 (.ofNat (nat_lit 0))), (.slice none 0 true 0)] [] []) fun x12 =>
  bndE (rSt h 5 x7 x12) h fun _ h =>
  bndV (qLd h (some 5) [x7]) fun x900000 =>
  ret1 (.tuple [(.int .i64 (.ofNat (nat_lit 0))), x900000]) h)
  (bndV (rSub x1 (.int .i64 (.ofNat (nat_lit 1)))) fun x14 =>
  bndV (rIaA 8 6 x3 x14) fun x15 =>
  bndV (rLdN h 6 x15) fun x16 =>
  bndN (rAlloc [(.int .i64 (.ofNat (nat_lit 0))), (.int .i64 (.ofNat (nat_lit 0))), (.bool false), (.str (sb [])), (.int .i64 (.ofNat (nat_lit 0))), (.slice none 0 true 0)] []) h fun x8 h =>
  bndE (rSt h 6 x8 x16) h fun _ h =>
  bndV (rFa 0 x8) fun x19 =>
  bndV (rLd h x19) fun x20 =>
  bndV (rGtr x2 x20) fun x21 =>
  (f257_0 x2 x7 x8 x21 h))
noncomputable def f257 (vs : List V) (h : HT) : Option J := unc3 vs fun x0 x1 x2 =>
  bndN (rBox x0) h fun x3 h =>
  bndN (rAlloc [(.int .i64 (.ofNat (nat_lit 0))), (.bool false), (.str (sb [])), (.int .i64 (.ofNat (nat_lit 0))), (.slice none 0 true 0)] []) h fun x7 h =>
  bndC (f311 [x1] h) fun x10 h =>
  (f257_1 x1 x2 x3 x7 x10 h)

/- concord/kv.find -/
noncomputable def l355 : List (Nat × (List V → HT → Option J)) := []
noncomputable def t355 : Fns := tab l355
noncomputable def f355_0 (rc : List V → HT → Option J) (x0 : V) (x1 : V) (x10 : V) (x11 : V) (h : HT) : Option J := tstv x11 (bndV (rIaS 3 x0 x10) fun x13 =>
  bndV (rLdN h 3 x13) fun x14 =>
  bndN (rAlloc [(.str (sb [])), (.str (sb [])), (.int .i64 (.ofNat (nat_lit 0)))] []) h fun x7 h =>
  bndE (rSt h 3 x7 x14) h fun _ h =>
  bndV (rFa 0 x7) fun x15 =>
  bndV (rLd h x15) fun x16 =>
  bndV (rGeq x16 x1) fun x18 =>
  tstv x18 (bndV (rFa 0 x7) fun x20 =>
  bndV (rLd h x20) fun x21 =>
  bndV (rEql x21 x1) fun x23 =>
  some ⟨1, [x10, x23], h⟩)
  (bndV (rAdd x10 (.int .i64 (.ofNat (nat_lit 1)))) fun x24 =>
  rc [x24] h))
  (some ⟨0, [], h⟩)
noncomputable def f355 (vs : List V) (h : HT) : Option J := unc2 vs fun x0 x1 =>
  bndV (rLenS x0) fun x9 =>
  bndJ (loopF (fun rc vs h => unc1 vs fun x10 =>
  bndV (rLss x10 x9) fun x11 =>
  (f355_0 rc x0 x1 x10 x11 h)) 1000000 [(.int .i64 (.ofNat (nat_lit 0)))] h)
  fun j vs h => nsw j (bndV (rLenS x0) fun x26 =>
  ret1 (.tuple [x26, (.bool false)]) h)
  fun j => unc2 vs fun x4 x5 =>
  ret1 (.tuple [x4, x5]) h

/- concord/kv.Get -/
noncomputable def l313 : List (Nat × (List V → HT → Option J)) := [(355, f355)]
noncomputable def t313 : Fns := tab l313
noncomputable def f313_0 (x0 : V) (x1 : V) (h : HT) : Option J := bndN (rAlloc [(.str (sb [])), (.str (sb [])), (.int .i64 (.ofNat (nat_lit 0)))] []) h fun x4 h =>
  bndC (f355 [x0, x1] h) fun x11 h =>
  bndV (rExt 0 x11) fun x12 =>
  bndV (rExt 1 x11) fun x13 =>
  bndV (rNot x13) fun x15 =>
  tstv x15 (bndV (rBld [(.str (sb [])), (.str (sb [])), (.int .i64 (.ofNat (nat_lit 0)))] [] []) fun x16 =>
  bndE (rSt h 3 x4 x16) h fun _ h =>
  bndV (qLd h (some 3) [x4]) fun x900000 =>
  ret1 (.tuple [x900000, (.bool false)]) h)
  (bndV (rIaS 3 x0 x12) fun x19 =>
  bndV (rLdN h 3 x19) fun x20 =>
  bndE (rSt h 3 x4 x20) h fun _ h =>
  bndV (qLd h (some 3) [x4]) fun x900000 =>
  ret1 (.tuple [x900000, (.bool true)]) h)
noncomputable def f313 (vs : List V) (h : HT) : Option J := unc2 vs fun x0 x1 =>
  (f313_0 x0 x1 h)

/- slices.Insert[[]concord/api.Pair,concord/api.Pair] -/
noncomputable def l356 : List (Nat × (List V → HT → Option J)) := []
noncomputable def t356 : Fns := tab l356
noncomputable def f356_0 (x0 : V) (x1 : V) (x2 : V) (x14 : V) (x19 : V) (x22 : V) (h : HT) : Option J := tstv x22 (bndE (dApp h 3 40 [x0, x2]) h fun x25 h =>
  ret1 x25 h)
  (bndV (rAdd x19 x14) fun x28 =>
  bndV (kCapS [x0]) fun x30 =>
  bndV (rGtr x28 x30) fun x31 =>
  tstv x31 (bndV (kSlS 3 false true [x0, x1]) fun x34 =>
  bndV (rAdd x19 x14) fun x37 =>
  bndV (rSub x37 x1) fun x39 =>
  none)
  (bndV (rAdd x19 x14) fun x59 =>
  bndV (kSlS 3 false true [x0, x59]) fun x60 =>
  bndV (rAdd x1 x14) fun x65 =>
  bndV (kSlS 3 true false [x60, x65]) fun x66 =>
  none))
noncomputable def f356 (vs : List V) (h : HT) : Option J := unc3 vs fun x0 x1 x2 =>
  bndV (kSlS 3 true false [x0, x1]) fun x12 =>
  bndV (rLenS x2) fun x14 =>
  bndV (rEql x14 (.int .i64 (.ofNat (nat_lit 0)))) fun x16 =>
  tstv x16 (ret1 x0 h)
  (bndV (rLenS x0) fun x19 =>
  bndV (rEql x1 x19) fun x22 =>
  (f356_0 x0 x1 x2 x14 x19 x22 h))

/- concord/kv.Put -/
noncomputable def l314 : List (Nat × (List V → HT → Option J)) := [(70, f70), (355, f355), (356, f356)]
noncomputable def t314 : Fns := tab l314
noncomputable def f314_0 (x1 : V) (x2 : V) (x15 : V) (x25 : V) (x27 : V) (h : HT) : Option J := bndJ (tstv x27 (bndV (rBld [(.str (sb [])), (.str (sb [])), (.int .i64 (.ofNat (nat_lit 0)))] [(0, 1)] [x1]) fun x31 =>
  bndN (rBsl 3 1 [(.str (sb [])), (.str (sb [])), (.int .i64 (.ofNat (nat_lit 0)))] [(0, 3)] [x31]) h fun x32 h =>
  bndC (f356 [x25, x15, x32] h) fun x33 h =>
  some ⟨0, [x33], h⟩)
  (some ⟨0, [x25], h⟩))
  fun j vs h => unc1 vs fun x10 =>
  bndV (rIaS 3 x10 x15) fun x37 =>
  bndV (rFa 1 x37) fun x38 =>
  bndE (rSt h 1 x38 x2) h fun _ h =>
  bndV (rIaS 3 x10 x15) fun x41 =>
  bndV (rFa 2 x41) fun x42 =>
  bndV (rLd h x42) fun x43 =>
  bndV (rAdd x43 (.int .i64 (.ofNat (nat_lit 1)))) fun x44 =>
  bndV (rIaS 3 x10 x15) fun x45 =>
  bndV (rFa 2 x45) fun x46 =>
  bndE (rSt h 1 x46 x44) h fun _ h =>
  ret1 (.tuple [x10, (.int .i64 (.ofNat (nat_lit 0)))]) h
noncomputable def f314 (vs : List V) (h : HT) : Option J := unc3 vs fun x0 x1 x2 =>
  bndC (f355 [x0, x1] h) fun x14 h =>
  bndV (rExt 0 x14) fun x15 =>
  bndV (rExt 1 x14) fun x16 =>
  bndV (rNot x16) fun x18 =>
  bndC (gsel x18 true (retV (kMov [x0]) h) h) fun x20 h =>
  bndC (gsel x18 true (retV (rLenS x20) h) h) fun x21 h =>
  bndC (gsel x18 true (retV (rGeq x21 (.int .i64 (.ofNat (nat_lit 32)))) h) h) fun x22 h =>
  bndV (rPick x18 x22 (.bool false)) fun x23 =>
  tstv x23 (ret1 (.tuple [(.slice none 0 true 0), (.int .i64 (.ofNat (nat_lit 7)))]) h)
  (bndC (f70 [x0] h) fun x25 h =>
  bndV (rNot x16) fun x27 =>
  (f314_0 x1 x2 x15 x25 x27 h))

/- concord/state.done -/
noncomputable def l258 : List (Nat × (List V → HT → Option J)) := [(313, f313), (314, f314)]
noncomputable def t258 : Fns := tab l258
noncomputable def f258_0 (x0 : V) (x5 : V) (x6 : V) (x22 : V) (x42 : V) (h : HT) : Option J := bndV (rExt 0 x42) fun x43 =>
  bndV (rExt 1 x42) fun x44 =>
  bndV (rNeq x44 (.int .i64 (.ofNat (nat_lit 0)))) fun x46 =>
  tstv x46 (bndV (rBld [(.int .i64 (.ofNat (nat_lit 0))), (.bool false), (.str (sb [])), (.int .i64 (.ofNat (nat_lit 0))), (.slice none 0 true 0)] [(0, 1)] [x44]) fun x49 =>
  bndE (rSt h 5 x5 x49) h fun _ h =>
  bndV (qLd h (some 5) [x5]) fun x900000 =>
  ret1 (.tuple [x0, x900000]) h)
  (bndV (rFa 2 x6) fun x52 =>
  bndV (rLd h x52) fun x53 =>
  bndV (rAdd x53 (.int .i64 (.ofNat (nat_lit 1)))) fun x54 =>
  bndV (rBld [(.int .i64 (.ofNat (nat_lit 0))), (.bool false), (.str (sb [])), (.int .i64 (.ofNat (nat_lit 0))), (.slice none 0 true 0)] [(1, 1), (3, 1)] [x22, x54]) fun x55 =>
  bndE (rSt h 5 x5 x55) h fun _ h =>
  bndV (qLd h (some 5) [x5]) fun x900000 =>
  ret1 (.tuple [x43, x900000]) h)
noncomputable def f258_1 (x0 : V) (x3 : V) (x5 : V) (x6 : V) (x89 : V) (h : HT) : Option J := bndV (rLd h x89) fun x90 =>
  bndV (rFa 6 x3) fun x91 =>
  bndV (rLd h x91) fun x92 =>
  bndC (f314 [x0, x90, x92] h) fun x93 h =>
  bndV (rExt 0 x93) fun x94 =>
  bndV (rExt 1 x93) fun x95 =>
  bndV (rFa 1 x6) fun x97 =>
  bndV (rLd h x97) fun x98 =>
  bndV (rFa 2 x6) fun x99 =>
  bndV (rLd h x99) fun x100 =>
  bndV (rAdd x100 (.int .i64 (.ofNat (nat_lit 1)))) fun x101 =>
  bndV (rBld [(.int .i64 (.ofNat (nat_lit 0))), (.bool false), (.str (sb [])), (.int .i64 (.ofNat (nat_lit 0))), (.slice none 0 true 0)] [(1, 1), (2, 1), (3, 1)] [(.bool true), x98, x101]) fun x102 =>
  bndE (rSt h 5 x5 x102) h fun _ h =>
  bndV (qLd h (some 5) [x5]) fun x900000 =>
  ret1 (.tuple [x94, x900000]) h
noncomputable def f258_2 (x0 : V) (x3 : V) (x5 : V) (x6 : V) (x73 : V) (x76 : V) (h : HT) : Option J := bndC (gsel x73 false (retV (rFa 5 x3) h) h) fun x77 h =>
  bndC (gsel x73 false (retV (rLd h x77) h) h) fun x78 h =>
  bndC (gsel x73 false (retV (rNeq x76 x78) h) h) fun x79 h =>
  bndV (rPick x73 (.bool true) x79) fun x80 =>
  tstv x80 (bndV (rFa 1 x6) fun x82 =>
  bndV (rLd h x82) fun x83 =>
  bndV (rFa 2 x6) fun x84 =>
  bndV (rLd h x84) fun x85 =>
  bndV (rBld [(.int .i64 (.ofNat (nat_lit 0))), (.bool false), (.str (sb [])), (.int .i64 (.ofNat (nat_lit 0))), (.slice none 0 true 0)] [(2, 1), (3, 1)] [x83, x85]) fun x86 =>
  bndE (rSt h 5 x5 x86) h fun _ h =>
  bndV (qLd h (some 5) [x5]) fun x900000 =>
  ret1 (.tuple [x0, x900000]) h)
  (bndV (rFa 3 x3) fun x89 =>
  (f258_1 x0 x3 x5 x6 x89 h))
noncomputable def f258_3 (x0 : V) (x3 : V) (x5 : V) (x6 : V) (x22 : V) (x71 : V) (h : HT) : Option J := tstv x71 (bndV (rNot x22) fun x73 =>
  bndC (gsel x73 false (retV (rFa 1 x6) h) h) fun x75 h =>
  bndC (gsel x73 false (retV (rLd h x75) h) h) fun x76 h =>
  (f258_2 x0 x3 x5 x6 x73 x76 h))
  (bndV (rFa 3 x3) fun x105 =>
  bndV (rLd h x105) fun x106 =>
  bndV (rFa 4 x3) fun x107 =>
  bndV (rLd h x107) fun x108 =>
  bndV (rBld [(.str (sb [])), (.str (sb []))] [(0, 1), (1, 1)] [x106, x108]) fun x109 =>
  bndC (noF [x0, x109] h) fun x110 h =>
  bndV (rExt 0 x110) fun x111 =>
  bndV (rExt 1 x110) fun x112 =>
  bndV (rBld [(.int .i64 (.ofNat (nat_lit 0))), (.bool false), (.str (sb [])), (.int .i64 (.ofNat (nat_lit 0))), (.slice none 0 true 0)] [(1, 1), (4, 1)] [x112, x111]) fun x116 =>
  bndE (rSt h 5 x5 x116) h fun _ h =>
  bndV (qLd h (some 5) [x5]) fun x900000 =>
  ret1 (.tuple [x0, x900000]) h)
noncomputable def f258_4 (x0 : V) (x3 : V) (x5 : V) (x6 : V) (x22 : V) (x24 : V) (h : HT) : Option J := bndV (rEql x24 (.int .i64 (.ofNat (nat_lit 3)))) fun x57 =>
  tstv x57 (bndV (rFa 3 x3) fun x60 =>
  bndV (rLd h x60) fun x61 =>
  bndC (noF [x0, x61] h) fun x62 h =>
  bndV (rExt 0 x62) fun x63 =>
  bndV (rExt 1 x62) fun x64 =>
  bndV (rFa 2 x6) fun x67 =>
  bndV (rLd h x67) fun x68 =>
  bndV (rBld [(.int .i64 (.ofNat (nat_lit 0))), (.bool false), (.str (sb [])), (.int .i64 (.ofNat (nat_lit 0))), (.slice none 0 true 0)] [(1, 1), (3, 1)] [x22, x68]) fun x69 =>
  bndE (rSt h 5 x5 x69) h fun _ h =>
  bndV (qLd h (some 5) [x5]) fun x900000 =>
  ret1 (.tuple [x63, x900000]) h)
  (bndV (rEql x24 (.int .i64 (.ofNat (nat_lit 4)))) fun x71 =>
  (f258_3 x0 x3 x5 x6 x22 x71 h))
noncomputable def f258_5 (x0 : V) (x3 : V) (x5 : V) (x6 : V) (x22 : V) (x24 : V) (x26 : V) (h : HT) : Option J := tstv x26 (bndV (rFa 1 x6) fun x29 =>
  bndV (rLd h x29) fun x30 =>
  bndV (rFa 2 x6) fun x31 =>
  bndV (rLd h x31) fun x32 =>
  bndV (rBld [(.int .i64 (.ofNat (nat_lit 0))), (.bool false), (.str (sb [])), (.int .i64 (.ofNat (nat_lit 0))), (.slice none 0 true 0)] [(1, 1), (2, 1), (3, 1)] [x22, x30, x32]) fun x33 =>
  bndE (rSt h 5 x5 x33) h fun _ h =>
  bndV (qLd h (some 5) [x5]) fun x900000 =>
  ret1 (.tuple [x0, x900000]) h)
  (bndV (rEql x24 (.int .i64 (.ofNat (nat_lit 2)))) fun x35 =>
  tstv x35 (bndV (rFa 3 x3) fun x38 =>
  bndV (rLd h x38) fun x39 =>
  bndV (rFa 6 x3) fun x40 =>
  bndV (rLd h x40) fun x41 =>
  bndC (f314 [x0, x39, x41] h) fun x42 h =>
  (f258_0 x0 x5 x6 x22 x42 h))
  ((f258_4 x0 x3 x5 x6 x22 x24 h)))
noncomputable def f258 (vs : List V) (h : HT) : Option J := unc2 vs fun x0 x1 =>
  bndN (rBox x1) h fun x3 h =>
  bndN (rAlloc [(.int .i64 (.ofNat (nat_lit 0))), (.bool false), (.str (sb [])), (.int .i64 (.ofNat (nat_lit 0))), (.slice none 0 true 0)] []) h fun x5 h =>
  bndV (rFa 3 x3) fun x18 =>
  bndV (rLd h x18) fun x19 =>
  bndC (f313 [x0, x19] h) fun x20 h =>
  bndV (rExt 0 x20) fun x21 =>
  bndV (rExt 1 x20) fun x22 =>
  bndN (rAlloc [(.str (sb [])), (.str (sb [])), (.int .i64 (.ofNat (nat_lit 0)))] []) h fun x6 h =>
  bndE (rSt h 3 x6 x21) h fun _ h =>
  bndV (rFa 0 x3) fun x23 =>
  bndV (rLd h x23) fun x24 =>
  bndV (rEql x24 (.int .i64 (.ofNat (nat_lit 1)))) fun x26 =>
  (f258_5 x0 x3 x5 x6 x22 x24 x26 h)

/- concord/state.Apply -/
noncomputable def l195 : List (Nat × (List V → HT → Option J)) := [(48, f48), (203, f203), (257, f257), (258, f258), (259, f259)]
noncomputable def t195 : Fns := tab l195
noncomputable def f195_0 (x3 : V) (x4 : V) (x5 : V) (x9 : V) (x46 : V) (x50 : V) (h : HT) : Option J := bndV (rFa 1 x3) fun x51 =>
  bndV (rLd h x51) fun x52 =>
  bndV (rFa 2 x3) fun x53 =>
  bndV (rLd h x53) fun x54 =>
  bndV (rLdN h 5 x9) fun x55 =>
  bndV (rLdN h 5 x9) fun x58 =>
  bndC (f259 [x50, x52, x54, x55] h) fun x56 h =>
  chk1 (sameE (rLdN h 5 x9) x58) (bndV (rBld [(.slice none 0 true 0), (.int .i64 (.ofNat (nat_lit 0))), (.int .i64 (.ofNat (nat_lit 0))), (.bool false), (.str (sb [])), (.int .i64 (.ofNat (nat_lit 0))), (.slice none 0 true 0), (.int .i64 (.ofNat (nat_lit 0))), (.int .i64 (.ofNat (nat_lit 0))), (.bool false), (.str (sb [])), (.int .i64 (.ofNat (nat_lit 0))), (.slice none 0 true 0), (.int .i64 (.ofNat (nat_lit 0))), (.int .i64 (.ofNat (nat_lit 0))), (.bool false), (.str (sb [])), (.int .i64 (.ofNat (nat_lit 0))), (.slice none 0 true 0), (.int .i64 (.ofNat (nat_lit 0))), (.int .i64 (.ofNat (nat_lit 0))), (.bool false), (.str (sb [])), (.int .i64 (.ofNat (nat_lit 0))), (.slice none 0 true 0), (.int .i64 (.ofNat (nat_lit 0))), (.int .i64 (.ofNat (nat_lit 0))), (.bool false), (.str (sb [])), (.int .i64 (.ofNat (nat_lit 0))), (.slice none 0 true 0), (.int .i64 (.ofNat (nat_lit 0))), (.int .i64 (.ofNat (nat_lit 0))), (.bool false), (.str (sb [])), (.int .i64 (.ofNat (nat_lit 0))), (.slice none 0 true 0), (.int .i64 (.ofNat (nat_lit 0))), (.int .i64 (.ofNat (nat_lit 0))), (.bool false), (.str (sb [])), (.int .i64 (.ofNat (nat_lit 0))), (.slice none 0 true 0), (.int .i64 (.ofNat (nat_lit 0))), (.int .i64 (.ofNat (nat_lit 0))), (.bool false), (.str (sb [])), (.int .i64 (.ofNat (nat_lit 0))), (.slice none 0 true 0)] [(0, 1), (1, 48)] [x46, x56]) fun x57 =>
  bndE (rSt h 49 x4 x57) h fun _ h =>
  chk1 (sameE (rLdN h 5 x9) x58) (bndE (rSt h 5 x5 x58) h fun _ h =>
  bndV (qLd h (some 49) [x4]) fun x900000 =>
  bndV (qLd h (some 5) [x5]) fun x900001 =>
  ret1 (.tuple [x900000, x900001]) h))
noncomputable def f195_1 (x2 : V) (x3 : V) (x4 : V) (x5 : V) (x38 : V) (h : HT) : Option J := tstv x38 (bndV (rLdN h 49 x2) fun x39 =>
  bndV (rBld [(.int .i64 (.ofNat (nat_lit 0))), (.bool false), (.str (sb [])), (.int .i64 (.ofNat (nat_lit 0))), (.slice none 0 true 0)] [(0, 1)] [(.int .i64 (.ofNat (nat_lit 9)))]) fun x40 =>
  bndE (rSt h 49 x4 x39) h fun _ h =>
  bndE (rSt h 5 x5 x40) h fun _ h =>
  bndV (qLd h (some 49) [x4]) fun x900000 =>
  bndV (qLd h (some 5) [x5]) fun x900001 =>
  ret1 (.tuple [x900000, x900001]) h)
  (bndV (rFa 0 x2) fun x42 =>
  bndV (rLd h x42) fun x43 =>
  bndV (rLdN h 7 x3) fun x44 =>
  bndC (f258 [x43, x44] h) fun x45 h =>
  bndV (rExt 0 x45) fun x46 =>
  bndV (rExt 1 x45) fun x47 =>
  bndN (rAlloc [(.int .i64 (.ofNat (nat_lit 0))), (.bool false), (.str (sb [])), (.int .i64 (.ofNat (nat_lit 0))), (.slice none 0 true 0)] []) h fun x9 h =>
  bndE (rSt h 5 x9 x47) h fun _ h =>
  bndV (rFa 1 x2) fun x49 =>
  bndV (rLdN h 48 x49) fun x50 =>
  (f195_0 x3 x4 x5 x9 x46 x50 h))
noncomputable def f195_2 (x2 : V) (x3 : V) (x4 : V) (x5 : V) (x29 : V) (x30 : V) (h : HT) : Option J := bndV (rExt 1 x29) fun x31 =>
  bndN (rAlloc [(.int .i64 (.ofNat (nat_lit 0))), (.bool false), (.str (sb [])), (.int .i64 (.ofNat (nat_lit 0))), (.slice none 0 true 0)] []) h fun x7 h =>
  bndE (rSt h 5 x7 x31) h fun _ h =>
  bndV (rEql x30 (.int .i64 (.ofNat (nat_lit 2)))) fun x34 =>
  tstv x34 (bndV (rLdN h 49 x2) fun x35 =>
  bndV (rLdN h 5 x7) fun x36 =>
  bndE (rSt h 49 x4 x35) h fun _ h =>
  chk1 (sameE (rLdN h 5 x7) x36) (bndE (rSt h 5 x5 x36) h fun _ h =>
  bndV (qLd h (some 49) [x4]) fun x900000 =>
  bndV (qLd h (some 5) [x5]) fun x900001 =>
  ret1 (.tuple [x900000, x900001]) h))
  (bndV (rEql x30 (.int .i64 (.ofNat (nat_lit 3)))) fun x38 =>
  (f195_1 x2 x3 x4 x5 x38 h))
noncomputable def f195_3 (x2 : V) (x3 : V) (x4 : V) (x5 : V) (x19 : V) (h : HT) : Option J := tstv x19 (bndV (rLdN h 49 x2) fun x20 =>
  bndV (rBld [(.int .i64 (.ofNat (nat_lit 0))), (.bool false), (.str (sb [])), (.int .i64 (.ofNat (nat_lit 0))), (.slice none 0 true 0)] [(0, 1)] [(.int .i64 (.ofNat (nat_lit 1)))]) fun x21 =>
  bndE (rSt h 49 x4 x20) h fun _ h =>
  bndE (rSt h 5 x5 x21) h fun _ h =>
  bndV (qLd h (some 49) [x4]) fun x900000 =>
  bndV (qLd h (some 5) [x5]) fun x900001 =>
  ret1 (.tuple [x900000, x900001]) h)
  (bndV (rFa 1 x2) fun x23 =>
  bndV (rLdN h 48 x23) fun x24 =>
  bndV (rFa 1 x3) fun x25 =>
  bndV (rLd h x25) fun x26 =>
  bndV (rFa 2 x3) fun x27 =>
  bndV (rLd h x27) fun x28 =>
  bndC (f257 [x24, x26, x28] h) fun x29 h =>
  bndV (rExt 0 x29) fun x30 =>
  (f195_2 x2 x3 x4 x5 x29 x30 h))
noncomputable def f195_4 (x2 : V) (x3 : V) (x4 : V) (x5 : V) (h : HT) : Option J := bndV (rLdN h 7 x3) fun x12 =>
  bndV (rBld [(.int .i64 (.ofNat (nat_lit 0))), (.int .i64 (.ofNat (nat_lit 0))), (.int .i64 (.ofNat (nat_lit 0))), (.str (sb [])), (.str (sb [])), (.str (sb [])), (.str (sb []))] [] []) fun x13 =>
  bndV (kEqF false [.i, .i, .i, .s, .s, .s, .s] [x12, x13]) fun x14 =>
  tstv x14 (bndV (rLdN h 49 x2) fun x15 =>
  bndV (rBld [(.int .i64 (.ofNat (nat_lit 0))), (.bool false), (.str (sb [])), (.int .i64 (.ofNat (nat_lit 0))), (.slice none 0 true 0)] [] []) fun x16 =>
  bndE (rSt h 49 x4 x15) h fun _ h =>
  bndE (rSt h 5 x5 x16) h fun _ h =>
  bndV (qLd h (some 49) [x4]) fun x900000 =>
  bndV (qLd h (some 5) [x5]) fun x900001 =>
  ret1 (.tuple [x900000, x900001]) h)
  (bndV (rLdN h 7 x3) fun x17 =>
  bndC (f48 [x17] h) fun x18 h =>
  bndV (rNot x18) fun x19 =>
  (f195_3 x2 x3 x4 x5 x19 h))
noncomputable def f195 (vs : List V) (h : HT) : Option J := unc2 vs fun x0 x1 =>
  bndN (rBox x0) h fun x2 h =>
  bndN (rBox x1) h fun x3 h =>
  bndN (rAlloc [(.slice none 0 true 0), (.int .i64 (.ofNat (nat_lit 0))), (.int .i64 (.ofNat (nat_lit 0))), (.bool false), (.str (sb [])), (.int .i64 (.ofNat (nat_lit 0))), (.slice none 0 true 0), (.int .i64 (.ofNat (nat_lit 0))), (.int .i64 (.ofNat (nat_lit 0))), (.bool false), (.str (sb [])), (.int .i64 (.ofNat (nat_lit 0))), (.slice none 0 true 0), (.int .i64 (.ofNat (nat_lit 0))), (.int .i64 (.ofNat (nat_lit 0))), (.bool false), (.str (sb [])), (.int .i64 (.ofNat (nat_lit 0))), (.slice none 0 true 0), (.int .i64 (.ofNat (nat_lit 0))), (.int .i64 (.ofNat (nat_lit 0))), (.bool false), (.str (sb [])), (.int .i64 (.ofNat (nat_lit 0))), (.slice none 0 true 0), (.int .i64 (.ofNat (nat_lit 0))), (.int .i64 (.ofNat (nat_lit 0))), (.bool false), (.str (sb [])), (.int .i64 (.ofNat (nat_lit 0))), (.slice none 0 true 0), (.int .i64 (.ofNat (nat_lit 0))), (.int .i64 (.ofNat (nat_lit 0))), (.bool false), (.str (sb [])), (.int .i64 (.ofNat (nat_lit 0))), (.slice none 0 true 0), (.int .i64 (.ofNat (nat_lit 0))), (.int .i64 (.ofNat (nat_lit 0))), (.bool false), (.str (sb [])), (.int .i64 (.ofNat (nat_lit 0))), (.slice none 0 true 0), (.int .i64 (.ofNat (nat_lit 0))), (.int .i64 (.ofNat (nat_lit 0))), (.bool false), (.str (sb [])), (.int .i64 (.ofNat (nat_lit 0))), (.slice none 0 true 0)] []) h fun x4 h =>
  bndN (rAlloc [(.int .i64 (.ofNat (nat_lit 0))), (.bool false), (.str (sb [])), (.int .i64 (.ofNat (nat_lit 0))), (.slice none 0 true 0)] []) h fun x5 h =>
  bndV (rLdN h 49 x2) fun x10 =>
  bndC (f203 [x10] h) fun x11 h =>
  bndE (rSt h 49 x2 x11) h fun _ h =>
  (f195_4 x2 x3 x4 x5 h)

/- (*concord/node.Node).run -/
noncomputable def l113 : List (Nat × (List V → HT → Option J)) := [(193, f193), (194, f194), (195, f195)]
noncomputable def t113 : Fns := tab l113
noncomputable def f113_0 (rc : List V → HT → Option J) (x0 : V) (x20 : V) (x41 : V) (x49 : V) (x51 : V) (h : HT) : Option J := bndV (rLd h x51) fun x52 =>
  bndV (rMax x49 x52) fun x53 =>
  bndV (rNilc x0) fun x54 =>
  bndV (rFa 55 x54) fun x55 =>
  bndV (rIaA 7 1 x55 x41) fun x56 =>
  bndE (rSt h 1 x56 x53) h fun _ h =>
  bndV (rNilc x0) fun x58 =>
  bndV (rFa 69 x58) fun x59 =>
  bndV (rLd h x59) fun x60 =>
  bndV (rAdd x60 (.int .i64 (.ofNat (nat_lit 1)))) fun x61 =>
  bndV (rNilc x0) fun x62 =>
  bndV (rFa 69 x62) fun x63 =>
  bndE (rSt h 1 x63 x61) h fun _ h =>
  bndV (rAdd x20 (.int .i64 (.ofNat (nat_lit 1)))) fun x64 =>
  rc [x64] h
noncomputable def f113_1 (rc : List V → HT → Option J) (x0 : V) (x5 : V) (x20 : V) (x34 : V) (x36 : V) (h : HT) : Option J := bndV (rFa 6 x36) fun x37 =>
  bndE (rSt h 49 x37 x34) h fun _ h =>
  bndV (rFa 0 x5) fun x39 =>
  bndV (rFa 0 x39) fun x40 =>
  bndV (rLd h x40) fun x41 =>
  bndV (rFa 0 x5) fun x43 =>
  bndV (rFa 0 x43) fun x44 =>
  bndV (rLd h x44) fun x45 =>
  bndV (rNilc x0) fun x46 =>
  bndV (rFa 55 x46) fun x47 =>
  bndV (rIaA 7 1 x47 x45) fun x48 =>
  bndV (rLd h x48) fun x49 =>
  bndV (rFa 0 x5) fun x50 =>
  bndV (rFa 1 x50) fun x51 =>
  (f113_0 rc x0 x20 x41 x49 x51 h)
noncomputable def f113_2 (rc : List V → HT → Option J) (x0 : V) (x16 : V) (x20 : V) (h : HT) : Option J := bndV (rIaS 23 x16 x20) fun x22 =>
  bndV (rLdN h 23 x22) fun x23 =>
  bndN (rAlloc [(.int .i64 (.ofNat (nat_lit 0))), (.int .i64 (.ofNat (nat_lit 0))), (.int .i64 (.ofNat (nat_lit 0))), (.int .i64 (.ofNat (nat_lit 0))), (.int .i64 (.ofNat (nat_lit 0))), (.int .i64 (.ofNat (nat_lit 0))), (.int .i64 (.ofNat (nat_lit 0))), (.int .i64 (.ofNat (nat_lit 0))), (.int .i64 (.ofNat (nat_lit 0))), (.int .i64 (.ofNat (nat_lit 0))), (.str (sb [])), (.str (sb [])), (.str (sb [])), (.str (sb [])), (.int .i64 (.ofNat (nat_lit 0))), (.int .i64 (.ofNat (nat_lit 0))), (.int .i64 (.ofNat (nat_lit 0))), (.int .i64 (.ofNat (nat_lit 0))), (.int .i64 (.ofNat (nat_lit 0))), (.int .i64 (.ofNat (nat_lit 0))), (.int .i64 (.ofNat (nat_lit 0))), (.int .i64 (.ofNat (nat_lit 0))), (.bool false)] []) h fun x5 h =>
  bndE (rSt h 23 x5 x23) h fun _ h =>
  bndV (rNilc x0) fun x27 =>
  bndV (rFa 6 x27) fun x28 =>
  bndV (rLdN h 49 x28) fun x29 =>
  bndV (rFa 2 x5) fun x30 =>
  bndV (rFa 5 x30) fun x31 =>
  bndV (rLdN h 7 x31) fun x32 =>
  bndC (f195 [x29, x32] h) fun x33 h =>
  bndV (rExt 0 x33) fun x34 =>
  bndV (rExt 1 x33) fun x35 =>
  bndV (rNilc x0) fun x36 =>
  (f113_1 rc x0 x5 x20 x34 x36 h)
noncomputable def f113_3 (rc : List V → HT → Option J) (x0 : V) (x17 : V) (x66 : V) (vs : List V) (h : HT) : Option J := unc1 vs fun x67 =>
  bndV (rLss x67 x66) fun x68 =>
  tstv x68 (bndV (rIaS 2 x17 x67) fun x69 =>
  bndV (rLdN h 2 x69) fun x70 =>
  bndN (rAlloc [(.int .i64 (.ofNat (nat_lit 0))), (.int .i64 (.ofNat (nat_lit 0)))] []) h fun x7 h =>
  bndE (rSt h 2 x7 x70) h fun _ h =>
  bndV (rFa 0 x7) fun x72 =>
  bndV (rLd h x72) fun x73 =>
  bndV (rFa 1 x7) fun x74 =>
  bndV (rLd h x74) fun x75 =>
  bndC (noF [x0, x73, x75] h) fun x76 h =>
  bndV (rAdd x67 (.int .i64 (.ofNat (nat_lit 1)))) fun x77 =>
  rc [x77] h)
  (some ⟨0, [], h⟩)
noncomputable def f113_4 (x0 : V) (x15 : V) (h : HT) : Option J := bndV (rExt 0 x15) fun x16 =>
  bndV (rExt 1 x15) fun x17 =>
  bndV (rLenS x16) fun x19 =>
  bndJ (loopF (fun rc vs h => unc1 vs fun x20 =>
  bndV (rLss x20 x19) fun x21 =>
  tstv x21 ((f113_2 rc x0 x16 x20 h))
  (some ⟨0, [], h⟩)) 1000000 [(.int .i64 (.ofNat (nat_lit 0)))] h)
  fun j vs h => bndV (rLenS x17) fun x66 =>
  bndJ (loopF (fun rc vs h => (f113_3 rc x0 x17 x66 vs h)) 1000000 [(.int .i64 (.ofNat (nat_lit 0)))] h)
  fun j vs h => ret1 (.tuple []) h
noncomputable def f113 (vs : List V) (h : HT) : Option J := unc1 vs fun x0 =>
  bndV (rNilc x0) fun x10 =>
  bndV (rFa 55 x10) fun x11 =>
  bndV (rLdN h 7 x11) fun x12 =>
  bndC (f194 [x0] h) fun x14 h =>
  chk1 (sameE (rLdN h 7 x11) x12) (bndC (f193 [x12, x14] h) fun x15 h =>
  (f113_4 x0 x15 h))

/- (*concord/node.Node).answer -/
noncomputable def l114 : List (Nat × (List V → HT → Option J)) := [(70, f70)]
noncomputable def t114 : Fns := tab l114
noncomputable def f114_0 (x0 : V) (x2 : V) (x4 : V) (x6 : V) (h : HT) : Option J := bndV (rNilc x0) fun x39 =>
  bndV (rFa 73 x39) fun x40 =>
  bndV (rLd h x40) fun x41 =>
  bndV (rFa 0 x4) fun x42 =>
  bndV (rLd h x42) fun x43 =>
  bndV (rFa 1 x4) fun x44 =>
  bndV (rLd h x44) fun x45 =>
  bndV (rLdN h 5 x6) fun x46 =>
  bndV (rBld [(.int .i64 (.ofNat (nat_lit 0))), (.int .i64 (.ofNat (nat_lit 0))), (.int .i64 (.ofNat (nat_lit 0))), (.bool false), (.str (sb [])), (.int .i64 (.ofNat (nat_lit 0))), (.slice none 0 true 0)] [(0, 1), (1, 1), (2, 5)] [x43, x45, x46]) fun x47 =>
  bndN (rBsl 7 1 [(.int .i64 (.ofNat (nat_lit 0))), (.int .i64 (.ofNat (nat_lit 0))), (.int .i64 (.ofNat (nat_lit 0))), (.bool false), (.str (sb [])), (.int .i64 (.ofNat (nat_lit 0))), (.slice none 0 true 0)] [(0, 7)] [x47]) h fun x48 h =>
  bndE (dApp h 7 80 [x41, x48]) h fun x49 h =>
  bndV (rNilc x0) fun x50 =>
  bndV (rFa 73 x50) fun x51 =>
  bndE (rSt h 1 x51 x49) h fun _ h =>
  some ⟨0, [x2], h⟩
noncomputable def f114_1 (x0 : V) (x2 : V) (x4 : V) (x5 : V) (x30 : V) (h : HT) : Option J := tstv x30 (bndV (rFa 1 x5) fun x31 =>
  bndV (rLdN h 5 x31) fun x32 =>
  bndN (rAlloc [(.int .i64 (.ofNat (nat_lit 0))), (.bool false), (.str (sb [])), (.int .i64 (.ofNat (nat_lit 0))), (.slice none 0 true 0)] []) h fun x6 h =>
  bndE (rSt h 5 x6 x32) h fun _ h =>
  bndV (rFa 4 x6) fun x33 =>
  bndV (rLd h x33) fun x34 =>
  bndC (f70 [x34] h) fun x35 h =>
  bndV (rFa 4 x6) fun x36 =>
  bndE (rSt h 1 x36 x35) h fun _ h =>
  (f114_0 x0 x2 x4 x6 h))
  (bndV (rFa 0 x5) fun x53 =>
  bndV (rLd h x53) fun x54 =>
  bndV (rFa 1 x4) fun x55 =>
  bndV (rLd h x55) fun x56 =>
  bndV (rLss x54 x56) fun x57 =>
  bndJ (tstv x57 (bndV (rLdN h 2 x4) fun x59 =>
  bndN (rBsl 2 1 [(.int .i64 (.ofNat (nat_lit 0))), (.int .i64 (.ofNat (nat_lit 0)))] [(0, 2)] [x59]) h fun x60 h =>
  bndE (dApp h 2 16 [x2, x60]) h fun x61 h =>
  some ⟨0, [x61], h⟩)
  (some ⟨0, [x2], h⟩))
  fun j vs h => unc1 vs fun x2 =>
  some ⟨0, [x2], h⟩)
noncomputable def f114_2 (rc : List V → HT → Option J) (x0 : V) (x2 : V) (x4 : V) (x12 : V) (x19 : V) (x21 : V) (h : HT) : Option J := bndV (rFa 1 x21) fun x22 =>
  bndV (rIaA 8 6 x22 x19) fun x23 =>
  bndV (rLdN h 6 x23) fun x24 =>
  bndN (rAlloc [(.int .i64 (.ofNat (nat_lit 0))), (.int .i64 (.ofNat (nat_lit 0))), (.bool false), (.str (sb [])), (.int .i64 (.ofNat (nat_lit 0))), (.slice none 0 true 0)] []) h fun x5 h =>
  bndE (rSt h 6 x5 x24) h fun _ h =>
  bndV (rFa 0 x5) fun x26 =>
  bndV (rLd h x26) fun x27 =>
  bndV (rFa 1 x4) fun x28 =>
  bndV (rLd h x28) fun x29 =>
  bndV (rEql x27 x29) fun x30 =>
  bndJ ((f114_1 x0 x2 x4 x5 x30 h))
  fun j vs h => unc1 vs fun x2 =>
  bndV (rAdd x12 (.int .i64 (.ofNat (nat_lit 1)))) fun x62 =>
  rc [x2, x62] h
noncomputable def f114_3 (x0 : V) (x10 : V) (x11 : V) (h : HT) : Option J := loopF (fun rc vs h => unc2 vs fun x2 x12 =>
  bndV (rLss x12 x11) fun x13 =>
  tstv x13 (bndV (rIaS 2 x10 x12) fun x14 =>
  bndV (rLdN h 2 x14) fun x15 =>
  bndN (rAlloc [(.int .i64 (.ofNat (nat_lit 0))), (.int .i64 (.ofNat (nat_lit 0)))] []) h fun x4 h =>
  bndE (rSt h 2 x4 x15) h fun _ h =>
  bndV (rFa 0 x4) fun x17 =>
  bndV (rLd h x17) fun x18 =>
  bndV (rSub x18 (.int .i64 (.ofNat (nat_lit 1)))) fun x19 =>
  bndV (rNilc x0) fun x20 =>
  bndV (rFa 6 x20) fun x21 =>
  (f114_2 rc x0 x2 x4 x12 x19 x21 h))
  (some ⟨0, [x2], h⟩)) 1000000 [(.slice none 0 true 0), (.int .i64 (.ofNat (nat_lit 0)))] h
noncomputable def f114 (vs : List V) (h : HT) : Option J := unc1 vs fun x0 =>
  bndV (rNilc x0) fun x8 =>
  bndV (rFa 71 x8) fun x9 =>
  bndV (rLd h x9) fun x10 =>
  bndV (rLenS x10) fun x11 =>
  bndJ ((f114_3 x0 x10 x11 h))
  fun j vs h => unc1 vs fun x2 =>
  bndV (rNilc x0) fun x65 =>
  bndV (rFa 71 x65) fun x66 =>
  bndE (rSt h 1 x66 x2) h fun _ h =>
  ret1 (.tuple []) h

/- (*concord/front.Fronts).Stable -/
noncomputable def l199 : List (Nat × (List V → HT → Option J)) := []
noncomputable def t199 : Fns := tab l199
noncomputable def f199_0 (rc : List V → HT → Option J) (x3 : V) (x20 : V) (x28 : V) (h : HT) : Option J := bndJ (loopF (fun rc vs h => unc1 vs fun x29 =>
  bndV (rLss x29 (.int .i64 (.ofNat (nat_lit 7)))) fun x30 =>
  tstv x30 (bndV (rIxA 7 1 x28 x29) fun x32 =>
  bndV (rIaA 7 1 x3 x29) fun x35 =>
  bndV (rLd h x35) fun x36 =>
  bndV (rMin x36 x32) fun x38 =>
  bndV (rIaA 7 1 x3 x29) fun x39 =>
  bndE (rSt h 1 x39 x38) h fun _ h =>
  bndV (rAdd x29 (.int .i64 (.ofNat (nat_lit 1)))) fun x40 =>
  rc [x40] h)
  (some ⟨0, [], h⟩)) 1000000 [(.int .i64 (.ofNat (nat_lit 0)))] h)
  fun j vs h => bndV (rAdd x20 (.int .i64 (.ofNat (nat_lit 1)))) fun x41 =>
  rc [x41] h
noncomputable def f199_1 (x0 : V) (x2 : V) (x3 : V) (x19 : V) (h : HT) : Option J := bndJ (loopF (fun rc vs h => unc1 vs fun x20 =>
  bndV (rLss x20 x19) fun x21 =>
  tstv x21 (bndV (rNilc x0) fun x25 =>
  bndV (rFa 2 x25) fun x26 =>
  bndV (rIaA 7 7 x26 x20) fun x27 =>
  bndV (rLdN h 7 x27) fun x28 =>
  (f199_0 rc x3 x20 x28 h))
  (some ⟨0, [], h⟩)) 1000000 [(.int .i64 (.ofNat (nat_lit 0)))] h)
  fun j vs h => bndV (rLdN h 7 x3) fun x42 =>
  bndE (rSt h 7 x2 x42) h fun _ h =>
  bndV (qLd h (some 7) [x2]) fun x900000 =>
  ret1 x900000 h
noncomputable def f199 (vs : List V) (h : HT) : Option J := unc1 vs fun x0 =>
  bndN (rAlloc [(.int .i64 (.ofNat (nat_lit 0))), (.int .i64 (.ofNat (nat_lit 0))), (.int .i64 (.ofNat (nat_lit 0))), (.int .i64 (.ofNat (nat_lit 0))), (.int .i64 (.ofNat (nat_lit 0))), (.int .i64 (.ofNat (nat_lit 0))), (.int .i64 (.ofNat (nat_lit 0)))] []) h fun x2 h =>
  bndV (rNilc x0) fun x9 =>
  bndV (rFa 1 x9) fun x10 =>
  bndV (rLd h x10) fun x11 =>
  bndV (rNilc x0) fun x12 =>
  bndV (rFa 2 x12) fun x13 =>
  bndV (rIaA 7 7 x13 x11) fun x14 =>
  bndV (rLdN h 7 x14) fun x15 =>
  bndN (rAlloc [(.int .i64 (.ofNat (nat_lit 0))), (.int .i64 (.ofNat (nat_lit 0))), (.int .i64 (.ofNat (nat_lit 0))), (.int .i64 (.ofNat (nat_lit 0))), (.int .i64 (.ofNat (nat_lit 0))), (.int .i64 (.ofNat (nat_lit 0))), (.int .i64 (.ofNat (nat_lit 0)))] []) h fun x3 h =>
  bndE (rSt h 7 x3 x15) h fun _ h =>
  bndV (rNilc x0) fun x17 =>
  bndV (rFa 0 x17) fun x18 =>
  bndV (rLd h x18) fun x19 =>
  (f199_1 x0 x2 x3 x19 h)

/- (*concord/log.Log).Cut -/
noncomputable def l265 : List (Nat × (List V → HT → Option J)) := []
noncomputable def t265 : Fns := tab l265

noncomputable def f265 (vs : List V) (h : HT) : Option J := unc1 vs fun x0 =>
  bndN (rAlloc [(.int .i64 (.ofNat (nat_lit 0))), (.int .i64 (.ofNat (nat_lit 0))), (.int .i64 (.ofNat (nat_lit 0))), (.int .i64 (.ofNat (nat_lit 0))), (.int .i64 (.ofNat (nat_lit 0))), (.int .i64 (.ofNat (nat_lit 0))), (.int .i64 (.ofNat (nat_lit 0)))] []) h fun x2 h =>
  bndV (rNilc x0) fun x4 =>
  bndV (rFa 1 x4) fun x5 =>
  bndV (rLdN h 7 x5) fun x6 =>
  bndE (rSt h 7 x2 x6) h fun _ h =>
  bndV (qLd h (some 7) [x2]) fun x900000 =>
  ret1 x900000 h

/- (*concord/core.Core).Cut -/
noncomputable def l200 : List (Nat × (List V → HT → Option J)) := [(265, f265)]
noncomputable def t200 : Fns := tab l200

noncomputable def f200 (vs : List V) (h : HT) : Option J := unc1 vs fun x0 =>
  bndN (rAlloc [(.int .i64 (.ofNat (nat_lit 0))), (.int .i64 (.ofNat (nat_lit 0))), (.int .i64 (.ofNat (nat_lit 0))), (.int .i64 (.ofNat (nat_lit 0))), (.int .i64 (.ofNat (nat_lit 0))), (.int .i64 (.ofNat (nat_lit 0))), (.int .i64 (.ofNat (nat_lit 0)))] []) h fun x2 h =>
  bndV (rNilc x0) fun x4 =>
  bndV (rFa 2 x4) fun x5 =>
  bndV (rLd h x5) fun x6 =>
  bndC (f265 [x6] h) fun x7 h =>
  bndE (rSt h 7 x2 x7) h fun _ h =>
  bndV (qLd h (some 7) [x2]) fun x900000 =>
  ret1 x900000 h

/- (*concord/node.Node).trim -/
noncomputable def l117 : List (Nat × (List V → HT → Option J)) := [(199, f199), (200, f200)]
noncomputable def t117 : Fns := tab l117
noncomputable def f117_0 (rc : List V → HT → Option J) (x6 : V) (x8 : V) (x9 : V) (x56 : V) (x66 : V) (x67 : V) (h : HT) : Option J := bndV (rExt 1 x66) fun x68 =>
  bndE (rSt h 21 x9 x67) h fun _ h =>
  bndJ (tstv x68 (bndV (rLdN h 2 x8) fun x71 =>
  bndV (rLdN h 21 x9) fun x72 =>
  bndC (noF [x71, x72] h) fun x73 h =>
  bndC (noF [x73] h) fun x74 h =>
  bndN (rBsl 1 1 [(.slice none 0 true 0)] [(0, 1)] [x74]) h fun x75 h =>
  bndE (dApp h 1 24 [x6, x75]) h fun x76 h =>
  some ⟨0, [x76], h⟩)
  (some ⟨0, [x6], h⟩))
  fun j vs h => unc1 vs fun x6 =>
  bndV (rAdd x56 (.int .i64 (.ofNat (nat_lit 1)))) fun x77 =>
  rc [x6, x77] h
noncomputable def f117_1 (rc : List V → HT → Option J) (x0 : V) (x6 : V) (x54 : V) (x55 : V) (x56 : V) (h : HT) : Option J := bndV (rLss x56 x55) fun x57 =>
  tstv x57 (bndV (rIaS 2 x54 x56) fun x58 =>
  bndV (rLdN h 2 x58) fun x59 =>
  bndN (rAlloc [(.int .i64 (.ofNat (nat_lit 0))), (.int .i64 (.ofNat (nat_lit 0)))] []) h fun x8 h =>
  bndE (rSt h 2 x8 x59) h fun _ h =>
  bndV (rNilc x0) fun x62 =>
  bndV (rFa 4 x62) fun x63 =>
  bndV (rLd h x63) fun x64 =>
  bndV (rLdN h 2 x8) fun x65 =>
  bndN (rAlloc [(.int .i64 (.ofNat (nat_lit 0))), (.int .i64 (.ofNat (nat_lit 0))), (.int .i64 (.ofNat (nat_lit 0))), (.int .i64 (.ofNat (nat_lit 0))), (.int .i64 (.ofNat (nat_lit 0))), (.int .i64 (.ofNat (nat_lit 0))), (.int .i64 (.ofNat (nat_lit 0))), (.int .i64 (.ofNat (nat_lit 0))), (.str (sb [])), (.str (sb [])), (.str (sb [])), (.str (sb [])), (.int .i64 (.ofNat (nat_lit 0))), (.int .i64 (.ofNat (nat_lit 0))), (.int .i64 (.ofNat (nat_lit 0))), (.int .i64 (.ofNat (nat_lit 0))), (.int .i64 (.ofNat (nat_lit 0))), (.int .i64 (.ofNat (nat_lit 0))), (.int .i64 (.ofNat (nat_lit 0))), (.int .i64 (.ofNat (nat_lit 0))), (.bool false)] []) h fun x9 h =>
  bndC (noF [x64, x65] h) fun x66 h =>
  bndV (rExt 0 x66) fun x67 =>
  (f117_0 rc x6 x8 x9 x56 x66 x67 h))
  (some ⟨0, [x6], h⟩)
noncomputable def f117_2 (x0 : V) (x49 : V) (x54 : V) (h : HT) : Option J := bndV (rLenS x54) fun x55 =>
  bndJ (loopF (fun rc vs h => unc2 vs fun x6 x56 =>
  (f117_1 rc x0 x6 x54 x55 x56 h)) 1000000 [x49, (.int .i64 (.ofNat (nat_lit 0)))] h)
  fun j vs h => unc1 vs fun x6 =>
  bndV (rNilc x0) fun x79 =>
  bndV (rFa 3 x79) fun x80 =>
  bndV (rLd h x80) fun x81 =>
  bndC (noF [x81, x6] h) fun x83 h =>
  bndV (rNeq x83 (.int .i64 (.ofNat (nat_lit 0)))) fun x84 =>
  tstv x84 (bndC (noF [x0] h) fun x86 h =>
  ret1 (.tuple []) h)
  (ret1 (.tuple []) h)
noncomputable def f117_3 (x0 : V) (x2 : V) (x38 : V) (h : HT) : Option J := bndV (rFa 4 x38) fun x39 =>
  bndV (rLd h x39) fun x40 =>
  bndV (rLdN h 7 x2) fun x41 =>
  bndC (noF [x40, x41] h) fun x42 h =>
  bndV (rNilc x0) fun x44 =>
  bndV (rFa 4 x44) fun x45 =>
  bndV (rLd h x45) fun x46 =>
  bndC (f200 [x46] h) fun x47 h =>
  bndC (noF [x47] h) fun x48 h =>
  bndN (rBsl 1 1 [(.slice none 0 true 0)] [(0, 1)] [x48]) h fun x49 h =>
  bndV (rNilc x0) fun x51 =>
  bndV (rFa 4 x51) fun x52 =>
  bndV (rLd h x52) fun x53 =>
  bndC (noF [x53] h) fun x54 h =>
  (f117_2 x0 x49 x54 h)
noncomputable def f117_4 (x0 : V) (x2 : V) (x3 : V) (h : HT) : Option J := bndJ (loopF (fun rc vs h => unc2 vs fun x4 x21 =>
  bndV (rLss x21 (.int .i64 (.ofNat (nat_lit 7)))) fun x22 =>
  tstv x22 (bndV (rIaA 7 1 x2 x21) fun x26 =>
  bndV (rLd h x26) fun x27 =>
  bndV (rIaA 7 1 x3 x21) fun x29 =>
  bndV (rLd h x29) fun x30 =>
  bndV (rSub x27 x30) fun x31 =>
  bndV (rMax x31 (.int .i64 (.ofNat (nat_lit 0)))) fun x32 =>
  bndV (rAdd x4 x32) fun x33 =>
  bndV (rAdd x21 (.int .i64 (.ofNat (nat_lit 1)))) fun x34 =>
  rc [x33, x34] h)
  (some ⟨0, [x4], h⟩)) 1000000 [(.int .i64 (.ofNat (nat_lit 0))), (.int .i64 (.ofNat (nat_lit 0)))] h)
  fun j vs h => unc1 vs fun x4 =>
  bndV (rLss x4 (.int .i64 (.ofNat (nat_lit 8)))) fun x36 =>
  tstv x36 (ret1 (.tuple []) h)
  (bndV (rNilc x0) fun x38 =>
  (f117_3 x0 x2 x38 h))
noncomputable def f117 (vs : List V) (h : HT) : Option J := unc1 vs fun x0 =>
  bndV (rNilc x0) fun x12 =>
  bndV (rFa 5 x12) fun x13 =>
  bndV (rLd h x13) fun x14 =>
  bndV (rNilc x0) fun x17 =>
  bndV (rFa 4 x17) fun x18 =>
  bndV (rLd h x18) fun x19 =>
  bndN (rAlloc [(.int .i64 (.ofNat (nat_lit 0))), (.int .i64 (.ofNat (nat_lit 0))), (.int .i64 (.ofNat (nat_lit 0))), (.int .i64 (.ofNat (nat_lit 0))), (.int .i64 (.ofNat (nat_lit 0))), (.int .i64 (.ofNat (nat_lit 0))), (.int .i64 (.ofNat (nat_lit 0)))] []) h fun x2 h =>
  bndN (rAlloc [(.int .i64 (.ofNat (nat_lit 0))), (.int .i64 (.ofNat (nat_lit 0))), (.int .i64 (.ofNat (nat_lit 0))), (.int .i64 (.ofNat (nat_lit 0))), (.int .i64 (.ofNat (nat_lit 0))), (.int .i64 (.ofNat (nat_lit 0))), (.int .i64 (.ofNat (nat_lit 0)))] []) h fun x3 h =>
  bndC (f199 [x14] h) fun x15 h =>
  chk1 (sameE (rLd h x18) x19) (bndC (f200 [x19] h) fun x20 h =>
  bndE (rSt h 7 x2 x15) h fun _ h =>
  bndE (rSt h 7 x3 x20) h fun _ h =>
  (f117_4 x0 x2 x3 h))

/- (*concord/node.Node).settle -/
noncomputable def l45 : List (Nat × (List V → HT → Option J)) := [(112, f112), (113, f113), (114, f114), (117, f117)]
noncomputable def t45 : Fns := tab l45
noncomputable def f45_0 (x0 : V) (x19 : V) (x21 : V) (x22 : V) (h : HT) : Option J := bndC (gsel x19 true (retV (rNilc x22) h) h) fun x23 h =>
  bndC (gsel x19 true (retV (rFa 55 x23) h) h) fun x24 h =>
  bndC (gsel x19 true (retV (rLdN h 7 x24) h) h) fun x25 h =>
  bndC (gsel x19 true (retV (kMov [x0]) h) h) fun x26 h =>
  bndC (gsel x19 true (retV (rNilc x26) h) h) fun x27 h =>
  bndC (gsel x19 true (retV (rFa 6 x27) h) h) fun x28 h =>
  bndC (gsel x19 true (retV (rLdN h 49 x28) h) h) fun x29 h =>
  bndC (gsel x19 true (noF [x25, x29] h) h) fun x30 h =>
  bndC (gsel x19 true (noF [x21, x30] h) h) fun x31 h =>
  bndC (gsel x19 true (retV (rNot x31) h) h) fun x32 h =>
  bndV (rPick x19 x32 (.bool false)) fun x33 =>
  tstv x33 (ret1 (.tuple []) h)
  (bndC (f117 [x0] h) fun x35 h =>
  ret1 (.tuple []) h)
noncomputable def f45_1 (x0 : V) (x5 : V) (h : HT) : Option J := bndC (gsel x5 false (retV (kMov [x0]) h) h) fun x7 h =>
  bndC (gsel x5 false (f112 [x7] h) h) fun x8 h =>
  bndC (gsel x5 false (retV (rNot x8) h) h) fun x9 h =>
  bndV (rPick x5 (.bool true) x9) fun x10 =>
  tstv x10 (ret1 (.tuple []) h)
  (bndC (f113 [x0] h) fun x12 h =>
  bndC (f114 [x0] h) fun x14 h =>
  bndV (rNilc x0) fun x16 =>
  bndV (rFa 69 x16) fun x17 =>
  bndV (rLd h x17) fun x18 =>
  bndV (rGeq x18 (.int .i64 (.ofNat (nat_lit 8)))) fun x19 =>
  bndC (gsel x19 true (retV (kMov [x0]) h) h) fun x21 h =>
  bndC (gsel x19 true (retV (kMov [x0]) h) h) fun x22 h =>
  (f45_0 x0 x19 x21 x22 h))
noncomputable def f45 (vs : List V) (h : HT) : Option J := unc1 vs fun x0 =>
  bndV (rNilc x0) fun x3 =>
  bndV (rFa 74 x3) fun x4 =>
  bndV (rLd h x4) fun x5 =>
  (f45_1 x0 x5 h)

/- concord/node.New -/
noncomputable def l9 : List (Nat × (List V → HT → Option J)) := [(35, f35), (36, f36), (37, f37), (38, f38), (40, f40), (41, f41), (42, f42), (43, f43), (44, f44), (45, f45)]
noncomputable def t9 : Fns := tab l9
noncomputable def f9_0 (x14 : V) (x75 : V) (x84 : V) (h : HT) : Option J := bndV (rGtr x84 (.int .i64 (.ofNat (nat_lit 0)))) fun x85 =>
  bndC (gsel x85 true (retV (kMov [x75]) h) h) fun x87 h =>
  bndC (gsel x85 true (retV (rIaS 1 x87 (.int .i64 (.ofNat (nat_lit 0)))) h) h) fun x88 h =>
  bndC (gsel x85 true (retV (rLd h x88) h) h) fun x89 h =>
  bndC (gsel x85 true (retV (rEql x89 (.int .u8 (.ofNat (nat_lit 2)))) h) h) fun x90 h =>
  bndV (rPick x85 x90 (.bool false)) fun x91 =>
  bndJ (tstv x91 (bndV (kSlS 1 true false [x75, (.int .i64 (.ofNat (nat_lit 1)))]) fun x94 =>
  bndN (rBsl 1 1 [(.slice none 0 true 0)] [(0, 1)] [x94]) h fun x95 h =>
  bndE (dApp h 1 24 [x14, x95]) h fun x96 h =>
  some ⟨0, [x96], h⟩)
  (some ⟨0, [x14], h⟩))
  fun j vs h => unc1 vs fun x14 =>
  some ⟨0, [x14], h⟩
noncomputable def f9_1 (rc : List V → HT → Option J) (x13 : V) (x14 : V) (x72 : V) (x75 : V) (h : HT) : Option J := bndC (noF [x75] h) fun x78 h =>
  bndV (rExt 0 x78) fun x79 =>
  bndV (rExt 1 x78) fun x80 =>
  bndN (rAlloc [(.int .i64 (.ofNat (nat_lit 0))), (.int .i64 (.ofNat (nat_lit 0))), (.int .i64 (.ofNat (nat_lit 0))), (.int .i64 (.ofNat (nat_lit 0))), (.int .i64 (.ofNat (nat_lit 0))), (.int .i64 (.ofNat (nat_lit 0))), (.int .i64 (.ofNat (nat_lit 0)))] []) h fun x17 h =>
  bndE (rSt h 7 x17 x79) h fun _ h =>
  bndJ (tstv x80 (bndV (rLdN h 7 x17) fun x82 =>
  bndE (rSt h 7 x13 x82) h fun _ h =>
  some ⟨0, [x14], h⟩)
  (bndV (rLenS x75) fun x84 =>
  (f9_0 x14 x75 x84 h)))
  fun j vs h => unc1 vs fun x14 =>
  bndV (rAdd x72 (.int .i64 (.ofNat (nat_lit 1)))) fun x97 =>
  rc [x14, x97] h
noncomputable def f9_2 (x1 : V) (x13 : V) (x42 : V) (x60 : V) (x118 : V) (h : HT) : Option J := bndJ (tstv x118 (bndV (rLdN h 7 x13) fun x120 =>
  bndC (f43 [x120] h) fun x121 h =>
  bndN (rBsl 1 1 [(.slice none 0 true 0)] [(0, 1)] [x121]) h fun x122 h =>
  bndC (f42 [x60, x122] h) fun x123 h =>
  bndV (rNeq x123 (.int .i64 (.ofNat (nat_lit 0)))) fun x125 =>
  tstv x125 (some ⟨0, [(.ptr none), x123], h⟩)
  (some ⟨1, [], h⟩))
  (some ⟨1, [], h⟩))
  fun j vs h => nsw j (unc2 vs fun x6 x7 =>
  ret1 (.tuple [x6, x7]) h)
  fun j => bndV (rNilc x42) fun x128 =>
  bndV (rFa 5 x128) fun x129 =>
  bndV (rLd h x129) fun x130 =>
  bndV (rNilc x42) fun x133 =>
  bndV (rFa 62 x133) fun x134 =>
  bndV (rLdN h 7 x134) fun x135 =>
  bndC (f44 [x130, x1, x135] h) fun x136 h =>
  bndC (f45 [x42] h) fun x138 h =>
  ret1 (.tuple [x42, (.int .i64 (.ofNat (nat_lit 0)))]) h
noncomputable def f9_3 (x0 : V) (x1 : V) (x13 : V) (x14 : V) (x42 : V) (x60 : V) (h : HT) : Option J := bndV (rLdN h 7 x13) fun x102 =>
  bndC (f40 [x0, x1, x102, x14] h) fun x104 h =>
  bndV (rExt 0 x104) fun x105 =>
  bndV (rExt 1 x104) fun x106 =>
  bndV (rNilc x42) fun x107 =>
  bndV (rFa 4 x107) fun x108 =>
  bndE (rSt h 1 x108 x105) h fun _ h =>
  bndV (rNeq x106 (.int .i64 (.ofNat (nat_lit 0)))) fun x110 =>
  tstv x110 (ret1 (.tuple [(.ptr none), x106]) h)
  (bndC (f41 [x60] h) fun x114 h =>
  bndV (rExt 0 x114) fun x115 =>
  bndV (rExt 1 x114) fun x116 =>
  bndV (rEql x115 (.int .i64 (.ofNat (nat_lit 0)))) fun x118 =>
  (f9_2 x1 x13 x42 x60 x118 h))
noncomputable def f9_4 (x0 : V) (x1 : V) (x42 : V) (x60 : V) (x61 : V) (x68 : V) (h : HT) : Option J := bndV (rFa 3 x68) fun x69 =>
  bndE (rSt h 1 x69 x60) h fun _ h =>
  bndN (rAlloc [(.int .i64 (.ofNat (nat_lit 0))), (.int .i64 (.ofNat (nat_lit 0))), (.int .i64 (.ofNat (nat_lit 0))), (.int .i64 (.ofNat (nat_lit 0))), (.int .i64 (.ofNat (nat_lit 0))), (.int .i64 (.ofNat (nat_lit 0))), (.int .i64 (.ofNat (nat_lit 0)))] []) h fun x13 h =>
  bndV (rLenS x61) fun x71 =>
  bndJ (loopF (fun rc vs h => unc2 vs fun x14 x72 =>
  bndV (rLss x72 x71) fun x73 =>
  tstv x73 (bndV (rIaS 1 x61 x72) fun x74 =>
  bndV (rLd h x74) fun x75 =>
  (f9_1 rc x13 x14 x72 x75 h))
  (some ⟨0, [x14], h⟩)) 1000000 [(.slice none 0 true 0), (.int .i64 (.ofNat (nat_lit 0)))] h)
  fun j vs h => unc1 vs fun x14 =>
  (f9_3 x0 x1 x13 x14 x42 x60 h)
noncomputable def f9_5 (x0 : V) (x1 : V) (x2 : V) (x42 : V) (x48 : V) (x50 : V) (h : HT) : Option J := bndV (rFa 5 x50) fun x51 =>
  bndE (rSt h 1 x51 x48) h fun _ h =>
  bndC (f37 [x42] h) fun x53 h =>
  bndV (rNeq x53 (.int .i64 (.ofNat (nat_lit 0)))) fun x55 =>
  tstv x55 (ret1 (.tuple [(.ptr none), x53]) h)
  (bndC (f38 [x2] h) fun x59 h =>
  bndV (rExt 0 x59) fun x60 =>
  bndV (rExt 1 x59) fun x61 =>
  bndV (rExt 2 x59) fun x62 =>
  bndV (rNeq x62 (.int .i64 (.ofNat (nat_lit 0)))) fun x64 =>
  tstv x64 (ret1 (.tuple [(.ptr none), x62]) h)
  (bndV (rNilc x42) fun x68 =>
  (f9_4 x0 x1 x42 x60 x61 x68 h)))
noncomputable def f9_6 (x0 : V) (x1 : V) (x2 : V) (x28 : V) (x30 : V) (h : HT) : Option J := bndC (gsel x28 false (retV (kMov [x0]) h) h) fun x31 h =>
  bndC (gsel x28 false (retV (rGeq x30 x31) h) h) fun x32 h =>
  bndV (rPick x28 (.bool true) x32) fun x33 =>
  bndC (gsel x33 false (retV (kMov [x2]) h) h) fun x35 h =>
  bndC (gsel x33 false (retV (kEqN false [x35, (.ptr none)]) h) h) fun x36 h =>
  bndV (rPick x33 (.bool true) x36) fun x37 =>
  tstv x37 (ret1 (.tuple [(.ptr none), (.int .i64 (.ofNat (nat_lit 1)))]) h)
  (bndV (rBld [(.int .i64 (.ofNat (nat_lit 0))), (.int .i64 (.ofNat (nat_lit 0))), (.ptr none), (.ptr none), (.ptr none), (.ptr none), (.slice none 0 true 0), (.int .i64 (.ofNat (nat_lit 0))), (.int .i64 (.ofNat (nat_lit 0))), (.bool false), (.str (sb [])), (.int .i64 (.ofNat (nat_lit 0))), (.slice none 0 true 0), (.int .i64 (.ofNat (nat_lit 0))), (.int .i64 (.ofNat (nat_lit 0))), (.bool false), (.str (sb [])), (.int .i64 (.ofNat (nat_lit 0))), (.slice none 0 true 0), (.int .i64 (.ofNat (nat_lit 0))), (.int .i64 (.ofNat (nat_lit 0))), (.bool false), (.str (sb [])), (.int .i64 (.ofNat (nat_lit 0))), (.slice none 0 true 0), (.int .i64 (.ofNat (nat_lit 0))), (.int .i64 (.ofNat (nat_lit 0))), (.bool false), (.str (sb [])), (.int .i64 (.ofNat (nat_lit 0))), (.slice none 0 true 0), (.int .i64 (.ofNat (nat_lit 0))), (.int .i64 (.ofNat (nat_lit 0))), (.bool false), (.str (sb [])), (.int .i64 (.ofNat (nat_lit 0))), (.slice none 0 true 0), (.int .i64 (.ofNat (nat_lit 0))), (.int .i64 (.ofNat (nat_lit 0))), (.bool false), (.str (sb [])), (.int .i64 (.ofNat (nat_lit 0))), (.slice none 0 true 0), (.int .i64 (.ofNat (nat_lit 0))), (.int .i64 (.ofNat (nat_lit 0))), (.bool false), (.str (sb [])), (.int .i64 (.ofNat (nat_lit 0))), (.slice none 0 true 0), (.int .i64 (.ofNat (nat_lit 0))), (.int .i64 (.ofNat (nat_lit 0))), (.bool false), (.str (sb [])), (.int .i64 (.ofNat (nat_lit 0))), (.slice none 0 true 0), (.int .i64 (.ofNat (nat_lit 0))), (.int .i64 (.ofNat (nat_lit 0))), (.int .i64 (.ofNat (nat_lit 0))), (.int .i64 (.ofNat (nat_lit 0))), (.int .i64 (.ofNat (nat_lit 0))), (.int .i64 (.ofNat (nat_lit 0))), (.int .i64 (.ofNat (nat_lit 0))), (.int .i64 (.ofNat (nat_lit 0))), (.int .i64 (.ofNat (nat_lit 0))), (.int .i64 (.ofNat (nat_lit 0))), (.int .i64 (.ofNat (nat_lit 0))), (.int .i64 (.ofNat (nat_lit 0))), (.int .i64 (.ofNat (nat_lit 0))), (.int .i64 (.ofNat (nat_lit 0))), (.int .i64 (.ofNat (nat_lit 0))), (.int .i64 (.ofNat (nat_lit 0))), (.slice none 0 true 0), (.slice none 0 true 0), (.slice none 0 true 0), (.bool false)] [(0, 1), (1, 1), (2, 1)] [x0, x1, x2]) fun x41 =>
  bndN (rBox x41) h fun x42 h =>
  bndC (f36 [x0, x1] h) fun x47 h =>
  bndV (rExt 0 x47) fun x48 =>
  bndV (rExt 1 x47) fun x49 =>
  bndV (rNilc x42) fun x50 =>
  (f9_5 x0 x1 x2 x42 x48 x50 h))
noncomputable def f9 (vs : List V) (h : HT) : Option J := unc3 vs fun x0 x1 x2 =>
  bndC (f35 [x0] h) fun x23 h =>
  bndV (rNot x23) fun x24 =>
  bndC (gsel x24 false (retV (kMov [x1]) h) h) fun x26 h =>
  bndC (gsel x24 false (retV (rLss x26 (.int .i64 (.ofNat (nat_lit 0)))) h) h) fun x27 h =>
  bndV (rPick x24 (.bool true) x27) fun x28 =>
  bndC (gsel x28 false (retV (kMov [x1]) h) h) fun x30 h =>
  (f9_6 x0 x1 x2 x28 x30 h)

/- concord/client.New -/
noncomputable def l59 : List (Nat × (List V → HT → Option J)) := []
noncomputable def t59 : Fns := tab l59

noncomputable def f59 (vs : List V) (h : HT) : Option J := unc1 vs fun x0 =>
  bndV (rLss x0 (.int .i64 (.ofNat (nat_lit 1)))) fun x5 =>
  bndC (gsel x5 false (retV (kMov [x0]) h) h) fun x7 h =>
  bndC (gsel x5 false (retV (rGtr x7 (.int .i64 (.ofNat (nat_lit 8)))) h) h) fun x8 h =>
  bndV (rPick x5 (.bool true) x8) fun x9 =>
  tstv x9 (ret1 (.tuple [(.ptr none), (.int .i64 (.ofNat (nat_lit 1)))]) h)
  (bndV (rBld [(.int .i64 (.ofNat (nat_lit 0))), (.int .i64 (.ofNat (nat_lit 0))), (.int .i64 (.ofNat (nat_lit 0))), (.int .i64 (.ofNat (nat_lit 0))), (.int .i64 (.ofNat (nat_lit 0))), (.str (sb [])), (.str (sb [])), (.str (sb [])), (.str (sb [])), (.bool false), (.int .i64 (.ofNat (nat_lit 0))), (.int .i64 (.ofNat (nat_lit 0)))] [(0, 1)] [x0]) fun x11 =>
  bndN (rBox x11) h fun x12 h =>
  ret1 (.tuple [x12, (.int .i64 (.ofNat (nat_lit 0)))]) h)

/- (*concord/node.Node).Out -/
noncomputable def l17 : List (Nat × (List V → HT → Option J)) := []
noncomputable def t17 : Fns := tab l17

noncomputable def f17 (vs : List V) (h : HT) : Option J := unc1 vs fun x0 =>
  bndV (rNilc x0) fun x7 =>
  bndV (rFa 72 x7) fun x8 =>
  bndV (rLd h x8) fun x9 =>
  bndV (rNilc x0) fun x11 =>
  bndV (rFa 73 x11) fun x12 =>
  bndV (rLd h x12) fun x13 =>
  bndV (rNilc x0) fun x16 =>
  bndV (rFa 72 x16) fun x17 =>
  bndE (rSt h 1 x17 (.slice none 0 true 0)) h fun _ h =>
  bndV (rNilc x0) fun x18 =>
  bndV (rFa 73 x18) fun x19 =>
  bndE (rSt h 1 x19 (.slice none 0 true 0)) h fun _ h =>
  ret1 (.tuple [x9, x13]) h

/- concord/cluster.known -/
noncomputable def l144 : List (Nat × (List V → HT → Option J)) := []
noncomputable def t144 : Fns := tab l144

noncomputable def f144 (vs : List V) (h : HT) : Option J := unc1 vs fun x0 =>
  bndV (rGeq x0 (.int .i64 (.ofNat (nat_lit 1)))) fun x4 =>
  bndC (gsel x4 true (retV (kMov [x0]) h) h) fun x6 h =>
  bndC (gsel x4 true (retV (rLeq x6 (.int .i64 (.ofNat (nat_lit 8)))) h) h) fun x7 h =>
  bndV (rPick x4 x7 (.bool false)) fun x8 =>
  ret1 x8 h

/- (*concord/client.Client).Tell -/
noncomputable def l145 : List (Nat × (List V → HT → Option J)) := []
noncomputable def t145 : Fns := tab l145
noncomputable def f145_0 (x0 : V) (x3 : V) (x9 : V) (x17 : V) (h : HT) : Option J := bndV (rPick x9 (.bool true) x17) fun x18 =>
  bndC (gsel x18 false (retV (rFa 1 x3) h) h) fun x20 h =>
  bndC (gsel x18 false (retV (rLd h x20) h) h) fun x21 h =>
  bndC (gsel x18 false (retV (kMov [x0]) h) h) fun x22 h =>
  bndC (gsel x18 false (retV (rNilc x22) h) h) fun x23 h =>
  bndC (gsel x18 false (retV (rFa 1 x23) h) h) fun x24 h =>
  bndC (gsel x18 false (retV (rLd h x24) h) h) fun x25 h =>
  bndC (gsel x18 false (retV (rNeq x21 x25) h) h) fun x26 h =>
  bndV (rPick x18 (.bool true) x26) fun x27 =>
  tstv x27 (ret1 (.bool false) h)
  (bndV (rNilc x0) fun x29 =>
  bndV (rFa 9 x29) fun x30 =>
  bndE (rSt h 1 x30 (.bool false)) h fun _ h =>
  ret1 (.bool true) h)
noncomputable def f145 (vs : List V) (h : HT) : Option J := unc2 vs fun x0 x1 =>
  bndN (rBox x1) h fun x3 h =>
  bndV (rNilc x0) fun x6 =>
  bndV (rFa 9 x6) fun x7 =>
  bndV (rLd h x7) fun x8 =>
  bndV (rNot x8) fun x9 =>
  bndC (gsel x9 false (retV (rFa 0 x3) h) h) fun x11 h =>
  bndC (gsel x9 false (retV (rLd h x11) h) h) fun x12 h =>
  bndC (gsel x9 false (retV (kMov [x0]) h) h) fun x13 h =>
  bndC (gsel x9 false (retV (rNilc x13) h) h) fun x14 h =>
  bndC (gsel x9 false (retV (rFa 0 x14) h) h) fun x15 h =>
  bndC (gsel x9 false (retV (rLd h x15) h) h) fun x16 h =>
  bndC (gsel x9 false (retV (rNeq x12 x16) h) h) fun x17 h =>
  (f145_0 x0 x3 x9 x17 h)

/- (*concord/cluster.Cluster).out -/
noncomputable def l60 : List (Nat × (List V → HT → Option J)) := [(17, f17), (70, f70), (144, f144), (145, f145)]
noncomputable def t60 : Fns := tab l60
noncomputable def f60_0 (rc : List V → HT → Option J) (x0 : V) (x7 : V) (x23 : V) (x41 : V) (h : HT) : Option J := bndJ (tstv x41 (bndV (rNilc x0) fun x44 =>
  bndV (rFa 5 x44) fun x45 =>
  bndV (rLd h x45) fun x46 =>
  bndV (rLdN h 51 x7) fun x47 =>
  bndN (rBsl 51 1 [(.int .i64 (.ofNat (nat_lit 0))), (.int .i64 (.ofNat (nat_lit 0))), (.int .i64 (.ofNat (nat_lit 0))), (.int .i64 (.ofNat (nat_lit 0))), (.int .i64 (.ofNat (nat_lit 0))), (.int .i64 (.ofNat (nat_lit 0))), (.int .i64 (.ofNat (nat_lit 0))), (.int .i64 (.ofNat (nat_lit 0))), (.int .i64 (.ofNat (nat_lit 0))), (.int .i64 (.ofNat (nat_lit 0))), (.str (sb [])), (.str (sb [])), (.str (sb [])), (.str (sb [])), (.int .i64 (.ofNat (nat_lit 0))), (.int .i64 (.ofNat (nat_lit 0))), (.int .i64 (.ofNat (nat_lit 0))), (.int .i64 (.ofNat (nat_lit 0))), (.int .i64 (.ofNat (nat_lit 0))), (.int .i64 (.ofNat (nat_lit 0))), (.int .i64 (.ofNat (nat_lit 0))), (.int .i64 (.ofNat (nat_lit 0))), (.int .i64 (.ofNat (nat_lit 0))), (.int .i64 (.ofNat (nat_lit 0))), (.int .i64 (.ofNat (nat_lit 0))), (.int .i64 (.ofNat (nat_lit 0))), (.int .i64 (.ofNat (nat_lit 0))), (.int .i64 (.ofNat (nat_lit 0))), (.int .i64 (.ofNat (nat_lit 0))), (.int .i64 (.ofNat (nat_lit 0))), (.str (sb [])), (.str (sb [])), (.str (sb [])), (.str (sb [])), (.int .i64 (.ofNat (nat_lit 0))), (.int .i64 (.ofNat (nat_lit 0))), (.int .i64 (.ofNat (nat_lit 0))), (.int .i64 (.ofNat (nat_lit 0))), (.int .i64 (.ofNat (nat_lit 0))), (.int .i64 (.ofNat (nat_lit 0))), (.int .i64 (.ofNat (nat_lit 0))), (.int .i64 (.ofNat (nat_lit 0))), (.bool false), (.int .i64 (.ofNat (nat_lit 0))), (.int .i64 (.ofNat (nat_lit 0))), (.int .i64 (.ofNat (nat_lit 0))), (.int .i64 (.ofNat (nat_lit 0))), (.int .i64 (.ofNat (nat_lit 0))), (.int .i64 (.ofNat (nat_lit 0))), (.int .i64 (.ofNat (nat_lit 0))), (.str (sb []))] [(0, 51)] [x47]) h fun x48 h =>
  bndE (dApp h 51 480 [x46, x48]) h fun x49 h =>
  bndV (rNilc x0) fun x50 =>
  bndV (rFa 5 x50) fun x51 =>
  bndE (rSt h 1 x51 x49) h fun _ h =>
  some ⟨0, [], h⟩)
  (some ⟨0, [], h⟩))
  fun j vs h => bndV (rAdd x23 (.int .i64 (.ofNat (nat_lit 1)))) fun x52 =>
  rc [x52] h
noncomputable def f60_1 (rc : List V → HT → Option J) (x0 : V) (x7 : V) (x23 : V) (x26 : V) (h : HT) : Option J := bndE (rSt h 51 x7 x26) h fun _ h =>
  bndV (rFa 2 x7) fun x27 =>
  bndV (rLd h x27) fun x28 =>
  bndV (rNilc x0) fun x30 =>
  bndV (rFa 0 x30) fun x31 =>
  bndV (rLd h x31) fun x32 =>
  bndV (rLss x28 x32) fun x33 =>
  bndC (gsel x33 true (retV (kMov [x0]) h) h) fun x35 h =>
  bndC (gsel x33 true (retV (rNilc x35) h) h) fun x36 h =>
  bndC (gsel x33 true (retV (rFa 5 x36) h) h) fun x37 h =>
  bndC (gsel x33 true (retV (rLd h x37) h) h) fun x38 h =>
  bndC (gsel x33 true (retV (rLenS x38) h) h) fun x39 h =>
  bndC (gsel x33 true (retV (rLss x39 (.int .i64 (.ofNat (nat_lit 4000)))) h) h) fun x40 h =>
  bndV (rPick x33 x40 (.bool false)) fun x41 =>
  (f60_0 rc x0 x7 x23 x41 h)
noncomputable def f60_2 (x0 : V) (x9 : V) (x85 : V) (x87 : V) (x90 : V) (h : HT) : Option J := bndV (rLd h x90) fun x91 =>
  bndV (rFa 0 x9) fun x92 =>
  bndV (rLd h x92) fun x93 =>
  bndV (rSub x93 (.int .i64 (.ofNat (nat_lit 1)))) fun x94 =>
  bndV (rIaS 7 x91 x94) fun x95 =>
  bndV (rLdN h 7 x95) fun x96 =>
  bndV (rFa 2 x9) fun x97 =>
  bndV (rLdN h 5 x97) fun x98 =>
  bndV (rBld [(.int .i64 (.ofNat (nat_lit 0))), (.int .i64 (.ofNat (nat_lit 0))), (.int .i64 (.ofNat (nat_lit 0))), (.int .i64 (.ofNat (nat_lit 0))), (.int .i64 (.ofNat (nat_lit 0))), (.str (sb [])), (.str (sb [])), (.str (sb [])), (.str (sb [])), (.int .i64 (.ofNat (nat_lit 0))), (.bool false), (.str (sb [])), (.int .i64 (.ofNat (nat_lit 0))), (.slice none 0 true 0)] [(0, 1), (1, 1), (2, 7), (9, 5)] [(.int .i64 (.ofNat (nat_lit 2))), x87, x96, x98]) fun x99 =>
  bndN (rBsl 14 1 [(.int .i64 (.ofNat (nat_lit 0))), (.int .i64 (.ofNat (nat_lit 0))), (.int .i64 (.ofNat (nat_lit 0))), (.int .i64 (.ofNat (nat_lit 0))), (.int .i64 (.ofNat (nat_lit 0))), (.str (sb [])), (.str (sb [])), (.str (sb [])), (.str (sb [])), (.int .i64 (.ofNat (nat_lit 0))), (.bool false), (.str (sb [])), (.int .i64 (.ofNat (nat_lit 0))), (.slice none 0 true 0)] [(0, 14)] [x99]) h fun x100 h =>
  bndE (dApp h 14 168 [x85, x100]) h fun x101 h =>
  bndV (rNilc x0) fun x102 =>
  bndV (rFa 6 x102) fun x103 =>
  bndE (rSt h 1 x103 x101) h fun _ h =>
  some ⟨0, [], h⟩
noncomputable def f60_3 (x0 : V) (x9 : V) (h : HT) : Option J := bndV (rFa 2 x9) fun x75 =>
  bndV (rFa 4 x75) fun x76 =>
  bndV (rLd h x76) fun x77 =>
  bndC (f70 [x77] h) fun x78 h =>
  bndV (rFa 2 x9) fun x79 =>
  bndV (rFa 4 x79) fun x80 =>
  bndE (rSt h 1 x80 x78) h fun _ h =>
  bndV (rNilc x0) fun x83 =>
  bndV (rFa 6 x83) fun x84 =>
  bndV (rLd h x84) fun x85 =>
  bndV (rFa 0 x9) fun x86 =>
  bndV (rLd h x86) fun x87 =>
  bndV (rNilc x0) fun x89 =>
  bndV (rFa 4 x89) fun x90 =>
  (f60_2 x0 x9 x85 x87 x90 h)
noncomputable def f60_4 (rc : List V → HT → Option J) (x0 : V) (x9 : V) (x55 : V) (x61 : V) (x65 : V) (h : HT) : Option J := bndC (gsel x61 true (retV (rLd h x65) h) h) fun x66 h =>
  bndC (gsel x61 true (retV (rFa 0 x9) h) h) fun x67 h =>
  bndC (gsel x61 true (retV (rLd h x67) h) h) fun x68 h =>
  bndC (gsel x61 true (retV (rSub x68 (.int .i64 (.ofNat (nat_lit 1)))) h) h) fun x69 h =>
  bndC (gsel x61 true (retV (rIaS 1 x66 x69) h) h) fun x70 h =>
  bndC (gsel x61 true (retV (rLd h x70) h) h) fun x71 h =>
  bndC (gsel x61 true (retV (rLdN h 7 x9) h) h) fun x72 h =>
  bndC (gsel x61 true (f145 [x71, x72] h) h) fun x73 h =>
  bndV (rPick x61 x73 (.bool false)) fun x74 =>
  bndJ (tstv x74 ((f60_3 x0 x9 h))
  (some ⟨0, [], h⟩))
  fun j vs h => bndV (rAdd x55 (.int .i64 (.ofNat (nat_lit 1)))) fun x104 =>
  rc [x104] h
noncomputable def f60_5 (rc : List V → HT → Option J) (x0 : V) (x20 : V) (x54 : V) (vs : List V) (h : HT) : Option J := unc1 vs fun x55 =>
  bndV (rLss x55 x54) fun x56 =>
  tstv x56 (bndV (rIaS 7 x20 x55) fun x57 =>
  bndV (rLdN h 7 x57) fun x58 =>
  bndN (rAlloc [(.int .i64 (.ofNat (nat_lit 0))), (.int .i64 (.ofNat (nat_lit 0))), (.int .i64 (.ofNat (nat_lit 0))), (.bool false), (.str (sb [])), (.int .i64 (.ofNat (nat_lit 0))), (.slice none 0 true 0)] []) h fun x9 h =>
  bndE (rSt h 7 x9 x58) h fun _ h =>
  bndV (rFa 0 x9) fun x59 =>
  bndV (rLd h x59) fun x60 =>
  bndC (f144 [x60] h) fun x61 h =>
  bndC (gsel x61 true (retV (kMov [x0]) h) h) fun x63 h =>
  bndC (gsel x61 true (retV (rNilc x63) h) h) fun x64 h =>
  bndC (gsel x61 true (retV (rFa 3 x64) h) h) fun x65 h =>
  (f60_4 rc x0 x9 x55 x61 x65 h))
  (some ⟨0, [], h⟩)
noncomputable def f60_6 (x0 : V) (x19 : V) (x20 : V) (x22 : V) (h : HT) : Option J := bndJ (loopF (fun rc vs h => unc1 vs fun x23 =>
  bndV (rLss x23 x22) fun x24 =>
  tstv x24 (bndV (rIaS 51 x19 x23) fun x25 =>
  bndV (rLdN h 51 x25) fun x26 =>
  bndN (rAlloc [(.int .i64 (.ofNat (nat_lit 0))), (.int .i64 (.ofNat (nat_lit 0))), (.int .i64 (.ofNat (nat_lit 0))), (.int .i64 (.ofNat (nat_lit 0))), (.int .i64 (.ofNat (nat_lit 0))), (.int .i64 (.ofNat (nat_lit 0))), (.int .i64 (.ofNat (nat_lit 0))), (.int .i64 (.ofNat (nat_lit 0))), (.int .i64 (.ofNat (nat_lit 0))), (.int .i64 (.ofNat (nat_lit 0))), (.str (sb [])), (.str (sb [])), (.str (sb [])), (.str (sb [])), (.int .i64 (.ofNat (nat_lit 0))), (.int .i64 (.ofNat (nat_lit 0))), (.int .i64 (.ofNat (nat_lit 0))), (.int .i64 (.ofNat (nat_lit 0))), (.int .i64 (.ofNat (nat_lit 0))), (.int .i64 (.ofNat (nat_lit 0))), (.int .i64 (.ofNat (nat_lit 0))), (.int .i64 (.ofNat (nat_lit 0))), (.int .i64 (.ofNat (nat_lit 0))), (.int .i64 (.ofNat (nat_lit 0))), (.int .i64 (.ofNat (nat_lit 0))), (.int .i64 (.ofNat (nat_lit 0))), (.int .i64 (.ofNat (nat_lit 0))), (.int .i64 (.ofNat (nat_lit 0))), (.int .i64 (.ofNat (nat_lit 0))), (.int .i64 (.ofNat (nat_lit 0))), (.str (sb [])), (.str (sb [])), (.str (sb [])), (.str (sb [])), (.int .i64 (.ofNat (nat_lit 0))), (.int .i64 (.ofNat (nat_lit 0))), (.int .i64 (.ofNat (nat_lit 0))), (.int .i64 (.ofNat (nat_lit 0))), (.int .i64 (.ofNat (nat_lit 0))), (.int .i64 (.ofNat (nat_lit 0))), (.int .i64 (.ofNat (nat_lit 0))), (.int .i64 (.ofNat (nat_lit 0))), (.bool false), (.int .i64 (.ofNat (nat_lit 0))), (.int .i64 (.ofNat (nat_lit 0))), (.int .i64 (.ofNat (nat_lit 0))), (.int .i64 (.ofNat (nat_lit 0))), (.int .i64 (.ofNat (nat_lit 0))), (.int .i64 (.ofNat (nat_lit 0))), (.int .i64 (.ofNat (nat_lit 0))), (.str (sb []))] []) h fun x7 h =>
  (f60_1 rc x0 x7 x23 x26 h))
  (some ⟨0, [], h⟩)) 1000000 [(.int .i64 (.ofNat (nat_lit 0)))] h)
  fun j vs h => bndV (rLenS x20) fun x54 =>
  bndJ (loopF (fun rc vs h => (f60_5 rc x0 x20 x54 vs h)) 1000000 [(.int .i64 (.ofNat (nat_lit 0)))] h)
  fun j vs h => ret1 (.tuple []) h
noncomputable def f60 (vs : List V) (h : HT) : Option J := unc2 vs fun x0 x1 =>
  bndV (rNilc x0) fun x12 =>
  bndV (rFa 2 x12) fun x13 =>
  bndV (rLd h x13) fun x14 =>
  bndV (rIaS 1 x14 x1) fun x16 =>
  bndV (rLd h x16) fun x17 =>
  bndC (f17 [x17] h) fun x18 h =>
  bndV (rExt 0 x18) fun x19 =>
  bndV (rExt 1 x18) fun x20 =>
  bndV (rLenS x19) fun x22 =>
  (f60_6 x0 x19 x20 x22 h)

/- concord/cluster.New -/
noncomputable def l18 : List (Nat × (List V → HT → Option J)) := [(8, f8), (9, f9), (59, f59), (60, f60)]
noncomputable def t18 : Fns := tab l18
noncomputable def f18_0 (rc : List V → HT → Option J) (x16 : V) (x20 : V) (x32 : V) (x42 : V) (x44 : V) (h : HT) : Option J := bndV (rNilc x16) fun x47 =>
  bndV (rFa 2 x47) fun x48 =>
  bndV (rLd h x48) fun x49 =>
  bndN (rBsl 1 1 [(.ptr none)] [(0, 1)] [x32]) h fun x51 h =>
  bndE (dApp h 1 8 [x42, x44]) h fun x45 h =>
  chk1 (sameE (rLd h x48) x49) (bndE (dApp h 1 8 [x49, x51]) h fun x52 h =>
  bndV (rNilc x16) fun x53 =>
  bndV (rFa 1 x53) fun x54 =>
  bndE (rSt h 1 x54 x45) h fun _ h =>
  bndV (rNilc x16) fun x55 =>
  bndV (rFa 2 x55) fun x56 =>
  bndE (rSt h 1 x56 x52) h fun _ h =>
  bndV (rAdd x20 (.int .i64 (.ofNat (nat_lit 1)))) fun x57 =>
  rc [x57] h)
noncomputable def f18_1 (rc : List V → HT → Option J) (x0 : V) (x16 : V) (x20 : V) (x21 : V) (h : HT) : Option J := tstv x21 (bndC (f8 [(.int .i64 (.ofNat (nat_lit 524288)))] h) fun x24 h =>
  bndV (rExt 0 x24) fun x25 =>
  bndV (rExt 1 x24) fun x26 =>
  bndC (f9 [x0, x20, x25] h) fun x31 h =>
  bndV (rExt 0 x31) fun x32 =>
  bndV (rExt 1 x31) fun x33 =>
  bndV (rNeq x33 (.int .i64 (.ofNat (nat_lit 0)))) fun x35 =>
  tstv x35 (some ⟨1, [(.ptr none), x33], h⟩)
  (bndV (rNilc x16) fun x40 =>
  bndV (rFa 1 x40) fun x41 =>
  bndV (rLd h x41) fun x42 =>
  bndN (rBsl 1 1 [(.ptr none)] [(0, 1)] [x25]) h fun x44 h =>
  (f18_0 rc x16 x20 x32 x42 x44 h)))
  (some ⟨0, [], h⟩)
noncomputable def f18_2 (rc : List V → HT → Option J) (x10 : V) (x16 : V) (x59 : V) (h : HT) : Option J := tstv x59 (bndC (f59 [x10] h) fun x64 h =>
  bndV (rExt 0 x64) fun x65 =>
  bndV (rExt 1 x64) fun x66 =>
  bndV (rNilc x16) fun x69 =>
  bndV (rFa 3 x69) fun x70 =>
  bndV (rLd h x70) fun x71 =>
  bndN (rBsl 1 1 [(.ptr none)] [(0, 1)] [x65]) h fun x73 h =>
  bndE (dApp h 1 8 [x71, x73]) h fun x74 h =>
  bndV (rNilc x16) fun x75 =>
  bndV (rFa 3 x75) fun x76 =>
  bndE (rSt h 1 x76 x74) h fun _ h =>
  bndV (rAdd x10 (.int .i64 (.ofNat (nat_lit 1)))) fun x61 =>
  rc [x61] h)
  (some ⟨0, [], h⟩)
noncomputable def f18_3 (x0 : V) (x16 : V) (h : HT) : Option J := bndJ (loopF (fun rc vs h => unc1 vs fun x10 =>
  bndV (rLeq x10 (.int .i64 (.ofNat (nat_lit 8)))) fun x59 =>
  (f18_2 rc x10 x16 x59 h)) 1000000 [(.int .i64 (.ofNat (nat_lit 1)))] h)
  fun j vs h => bndN (kMkS 7 88 [(.int .i64 (.ofNat (nat_lit 0))), (.int .i64 (.ofNat (nat_lit 0))), (.int .i64 (.ofNat (nat_lit 0))), (.str (sb [])), (.str (sb [])), (.str (sb [])), (.str (sb []))] [(.int .i64 (.ofNat (nat_lit 8))), (.int .i64 (.ofNat (nat_lit 8)))]) h fun x78 h =>
  bndV (rNilc x16) fun x79 =>
  bndV (rFa 4 x79) fun x80 =>
  bndE (rSt h 1 x80 x78) h fun _ h =>
  bndJ (loopF (fun rc vs h => unc1 vs fun x82 =>
  bndV (rLss x82 x0) fun x83 =>
  tstv x83 (bndC (f60 [x16, x82] h) fun x87 h =>
  bndV (rAdd x82 (.int .i64 (.ofNat (nat_lit 1)))) fun x88 =>
  rc [x88] h)
  (some ⟨0, [], h⟩)) 1000000 [(.int .i64 (.ofNat (nat_lit 0)))] h)
  fun j vs h => ret1 (.tuple [x16, (.int .i64 (.ofNat (nat_lit 0)))]) h
noncomputable def f18 (vs : List V) (h : HT) : Option J := unc1 vs fun x0 =>
  bndV (rBld [(.int .i64 (.ofNat (nat_lit 0))), (.slice none 0 true 0), (.slice none 0 true 0), (.slice none 0 true 0), (.slice none 0 true 0), (.slice none 0 true 0), (.slice none 0 true 0)] [(0, 1)] [x0]) fun x15 =>
  bndN (rBox x15) h fun x16 h =>
  bndV (rMax x0 (.int .i64 (.ofNat (nat_lit 1)))) fun x18 =>
  bndV (rMin x18 (.int .i64 (.ofNat (nat_lit 8)))) fun x19 =>
  bndJ (loopF (fun rc vs h => unc1 vs fun x20 =>
  bndV (rLss x20 x19) fun x21 =>
  (f18_1 rc x0 x16 x20 x21 h)) 1000000 [(.int .i64 (.ofNat (nat_lit 0)))] h)
  fun j vs h => nsw j ((f18_3 x0 x16 h))
  fun j => unc2 vs fun x2 x3 =>
  ret1 (.tuple [x2, x3]) h

/- (*concord/client.Client).Begin -/
noncomputable def l146 : List (Nat × (List V → HT → Option J)) := [(48, f48)]
noncomputable def t146 : Fns := tab l146
noncomputable def f146_0 (x0 : V) (x2 : V) (x4 : V) (x6 : V) (x49 : V) (x53 : V) (h : HT) : Option J := bndV (rFa 2 x53) fun x54 =>
  bndE (rSt h 7 x54 x49) h fun _ h =>
  bndV (rNilc x0) fun x55 =>
  bndV (rFa 9 x55) fun x56 =>
  bndE (rSt h 1 x56 (.bool true)) h fun _ h =>
  bndV (rNilc x0) fun x57 =>
  bndV (rFa 10 x57) fun x58 =>
  bndE (rSt h 1 x58 x2) h fun _ h =>
  bndV (rNilc x0) fun x59 =>
  bndV (rFa 11 x59) fun x60 =>
  bndE (rSt h 1 x60 (.int .i64 (.ofNat (nat_lit 0)))) h fun _ h =>
  bndV (rLdN h 7 x4) fun x61 =>
  bndE (rSt h 7 x6 x61) h fun _ h =>
  bndV (qLd h (some 7) [x6]) fun x900000 =>
  ret1 (.tuple [x900000, (.bool true)]) h
noncomputable def f146_1 (x0 : V) (x2 : V) (x4 : V) (x6 : V) (x36 : V) (x39 : V) (h : HT) : Option J := bndV (rPick x36 (.bool true) x39) fun x40 =>
  tstv x40 (bndV (rBld [(.int .i64 (.ofNat (nat_lit 0))), (.int .i64 (.ofNat (nat_lit 0))), (.int .i64 (.ofNat (nat_lit 0))), (.str (sb [])), (.str (sb [])), (.str (sb [])), (.str (sb []))] [] []) fun x41 =>
  bndE (rSt h 7 x6 x41) h fun _ h =>
  bndV (qLd h (some 7) [x6]) fun x900000 =>
  ret1 (.tuple [x900000, (.bool false)]) h)
  (bndV (rFa 2 x4) fun x47 =>
  bndV (rLd h x47) fun x48 =>
  bndV (rLdN h 7 x4) fun x49 =>
  bndV (rNilc x0) fun x51 =>
  bndV (rFa 1 x51) fun x52 =>
  bndE (rSt h 1 x52 x48) h fun _ h =>
  chk1 (sameE (rLdN h 7 x4) x49) (bndV (rNilc x0) fun x53 =>
  (f146_0 x0 x2 x4 x6 x49 x53 h)))
noncomputable def f146_2 (x0 : V) (x2 : V) (x4 : V) (x6 : V) (x21 : V) (h : HT) : Option J := bndV (rLd h x21) fun x22 =>
  bndC (gsel x22 false (retV (rLdN h 7 x4) h) h) fun x24 h =>
  bndC (gsel x22 false (f48 [x24] h) h) fun x25 h =>
  bndC (gsel x22 false (retV (rNot x25) h) h) fun x26 h =>
  bndV (rPick x22 (.bool true) x26) fun x27 =>
  bndC (gsel x27 false (retV (rFa 0 x4) h) h) fun x29 h =>
  bndC (gsel x27 false (retV (rLd h x29) h) h) fun x30 h =>
  bndC (gsel x27 false (retV (rEql x30 (.int .i64 (.ofNat (nat_lit 0)))) h) h) fun x31 h =>
  bndV (rPick x27 (.bool true) x31) fun x32 =>
  bndC (gsel x32 false (retV (kMov [x2]) h) h) fun x34 h =>
  bndC (gsel x32 false (retV (rLss x34 (.int .i64 (.ofNat (nat_lit 0)))) h) h) fun x35 h =>
  bndV (rPick x32 (.bool true) x35) fun x36 =>
  bndC (gsel x36 false (retV (kMov [x2]) h) h) fun x38 h =>
  bndC (gsel x36 false (retV (rGeq x38 (.int .i64 (.ofNat (nat_lit 7)))) h) h) fun x39 h =>
  (f146_1 x0 x2 x4 x6 x36 x39 h)
noncomputable def f146_3 (x0 : V) (x2 : V) (x4 : V) (x6 : V) (h : HT) : Option J := bndV (rNilc x0) fun x9 =>
  bndV (rFa 0 x9) fun x10 =>
  bndV (rLd h x10) fun x11 =>
  bndV (rNilc x0) fun x13 =>
  bndV (rFa 1 x13) fun x14 =>
  bndV (rLd h x14) fun x15 =>
  bndV (rAdd x15 (.int .i64 (.ofNat (nat_lit 1)))) fun x16 =>
  bndV (rFa 1 x4) fun x17 =>
  bndE (rSt h 1 x17 x11) h fun _ h =>
  chk1 (sameE (rLd h x14) x15) (bndV (rFa 2 x4) fun x18 =>
  bndE (rSt h 1 x18 x16) h fun _ h =>
  bndV (rNilc x0) fun x20 =>
  bndV (rFa 9 x20) fun x21 =>
  (f146_2 x0 x2 x4 x6 x21 h))
noncomputable def f146 (vs : List V) (h : HT) : Option J := unc3 vs fun x0 x1 x2 =>
  bndN (rBox x1) h fun x4 h =>
  bndN (rAlloc [(.int .i64 (.ofNat (nat_lit 0))), (.int .i64 (.ofNat (nat_lit 0))), (.int .i64 (.ofNat (nat_lit 0))), (.str (sb [])), (.str (sb [])), (.str (sb [])), (.str (sb []))] []) h fun x6 h =>
  (f146_3 x0 x2 x4 x6 h)

/- (*concord/node.Node).way -/
noncomputable def l49 : List (Nat × (List V → HT → Option J)) := [(123, f123)]
noncomputable def t49 : Fns := tab l49
noncomputable def f49_0 (rc : List V → HT → Option J) (x3 : V) (x7 : V) (x15 : V) (x48 : V) (x52 : V) (h : HT) : Option J := bndC (gsel x48 true (retV (rFa 0 x3) h) h) fun x53 h =>
  bndC (gsel x48 true (retV (rLd h x53) h) h) fun x54 h =>
  bndC (gsel x48 true (retV (rEql x52 x54) h) h) fun x55 h =>
  bndV (rPick x48 x55 (.bool false)) fun x56 =>
  bndC (gsel x56 true (retV (rFa 5 x7) h) h) fun x58 h =>
  bndC (gsel x56 true (retV (rFa 2 x58) h) h) fun x59 h =>
  bndC (gsel x56 true (retV (rLd h x59) h) h) fun x60 h =>
  bndC (gsel x56 true (retV (rFa 1 x3) h) h) fun x61 h =>
  bndC (gsel x56 true (retV (rLd h x61) h) h) fun x62 h =>
  bndC (gsel x56 true (retV (rEql x60 x62) h) h) fun x63 h =>
  bndV (rPick x56 x63 (.bool false)) fun x64 =>
  tstv x64 (some ⟨1, [(.bool true)], h⟩)
  (bndV (rAdd x15 (.int .i64 (.ofNat (nat_lit 1)))) fun x65 =>
  rc [x65] h)
noncomputable def f49_1 (rc : List V → HT → Option J) (x0 : V) (x3 : V) (x7 : V) (x15 : V) (x34 : V) (x37 : V) (h : HT) : Option J := bndC (gsel x34 true (retV (kMov [x0]) h) h) fun x38 h =>
  bndC (gsel x34 true (retV (kMov [x0]) h) h) fun x39 h =>
  bndC (gsel x34 true (retV (rNilc x39) h) h) fun x40 h =>
  bndC (gsel x34 true (retV (rFa 1 x40) h) h) fun x41 h =>
  bndC (gsel x34 true (retV (rLd h x41) h) h) fun x42 h =>
  bndC (gsel x34 true (retV (rNilc x38) h) h) fun x43 h =>
  bndC (gsel x34 true (retV (rFa 55 x43) h) h) fun x44 h =>
  bndC (gsel x34 true (retV (rIaA 7 1 x44 x42) h) h) fun x45 h =>
  bndC (gsel x34 true (retV (rLd h x45) h) h) fun x46 h =>
  bndC (gsel x34 true (retV (rGtr x37 x46) h) h) fun x47 h =>
  bndV (rPick x34 x47 (.bool false)) fun x48 =>
  bndC (gsel x48 true (retV (rFa 5 x7) h) h) fun x50 h =>
  bndC (gsel x48 true (retV (rFa 1 x50) h) h) fun x51 h =>
  bndC (gsel x48 true (retV (rLd h x51) h) h) fun x52 h =>
  (f49_0 rc x3 x7 x15 x48 x52 h)
noncomputable def f49_2 (rc : List V → HT → Option J) (x0 : V) (x3 : V) (x6 : V) (x15 : V) (x23 : V) (h : HT) : Option J := bndV (rLdN h 2 x6) fun x24 =>
  bndN (rAlloc [(.int .i64 (.ofNat (nat_lit 0))), (.int .i64 (.ofNat (nat_lit 0))), (.int .i64 (.ofNat (nat_lit 0))), (.int .i64 (.ofNat (nat_lit 0))), (.int .i64 (.ofNat (nat_lit 0))), (.int .i64 (.ofNat (nat_lit 0))), (.int .i64 (.ofNat (nat_lit 0))), (.int .i64 (.ofNat (nat_lit 0))), (.str (sb [])), (.str (sb [])), (.str (sb [])), (.str (sb [])), (.int .i64 (.ofNat (nat_lit 0))), (.int .i64 (.ofNat (nat_lit 0))), (.int .i64 (.ofNat (nat_lit 0))), (.int .i64 (.ofNat (nat_lit 0))), (.int .i64 (.ofNat (nat_lit 0))), (.int .i64 (.ofNat (nat_lit 0))), (.int .i64 (.ofNat (nat_lit 0))), (.int .i64 (.ofNat (nat_lit 0))), (.bool false)] []) h fun x7 h =>
  bndC (noF [x23, x24] h) fun x25 h =>
  bndV (rExt 0 x25) fun x26 =>
  bndV (rExt 1 x25) fun x27 =>
  bndE (rSt h 21 x7 x26) h fun _ h =>
  bndV (rFa 0 x6) fun x28 =>
  bndV (rLd h x28) fun x29 =>
  bndV (rNilc x0) fun x31 =>
  bndV (rFa 1 x31) fun x32 =>
  bndV (rLd h x32) fun x33 =>
  bndV (rEql x29 x33) fun x34 =>
  bndC (gsel x34 true (retV (rFa 1 x6) h) h) fun x36 h =>
  bndC (gsel x34 true (retV (rLd h x36) h) h) fun x37 h =>
  (f49_1 rc x0 x3 x7 x15 x34 x37 h)
noncomputable def f49_3 (x0 : V) (x3 : V) (x13 : V) (x14 : V) (h : HT) : Option J := bndJ (loopF (fun rc vs h => unc1 vs fun x15 =>
  bndV (rLss x15 x14) fun x16 =>
  tstv x16 (bndV (rIaS 2 x13 x15) fun x17 =>
  bndV (rLdN h 2 x17) fun x18 =>
  bndN (rAlloc [(.int .i64 (.ofNat (nat_lit 0))), (.int .i64 (.ofNat (nat_lit 0)))] []) h fun x6 h =>
  bndE (rSt h 2 x6 x18) h fun _ h =>
  bndV (rNilc x0) fun x21 =>
  bndV (rFa 4 x21) fun x22 =>
  bndV (rLd h x22) fun x23 =>
  (f49_2 rc x0 x3 x6 x15 x23 h))
  (some ⟨0, [], h⟩)) 1000000 [(.int .i64 (.ofNat (nat_lit 0)))] h)
  fun j vs h => nsw j (ret1 (.bool false) h)
  fun j => unc1 vs fun x4 =>
  ret1 x4 h
noncomputable def f49 (vs : List V) (h : HT) : Option J := unc2 vs fun x0 x1 =>
  bndN (rBox x1) h fun x3 h =>
  bndV (rNilc x0) fun x10 =>
  bndV (rFa 4 x10) fun x11 =>
  bndV (rLd h x11) fun x12 =>
  bndC (f123 [x12] h) fun x13 h =>
  bndV (rLenS x13) fun x14 =>
  (f49_3 x0 x3 x13 x14 h)

/- (*concord/log.Log).Top -/
noncomputable def l125 : List (Nat × (List V → HT → Option J)) := []
noncomputable def t125 : Fns := tab l125
noncomputable def f125_0 (rc : List V → HT → Option J) (x3 : V) (x16 : V) (h : HT) : Option J := bndV (rExt 0 x16) fun x17 =>
  bndN (rAlloc [(.int .i64 (.ofNat (nat_lit 0))), (.int .i64 (.ofNat (nat_lit 0)))] []) h fun x4 h =>
  bndE (rSt h 2 x4 x17) h fun _ h =>
  bndV (rFa 0 x4) fun x18 =>
  bndV (rLd h x18) fun x19 =>
  bndV (rFa 0 x4) fun x20 =>
  bndV (rLd h x20) fun x21 =>
  bndV (rIaA 7 1 x3 x21) fun x22 =>
  bndV (rLd h x22) fun x23 =>
  bndV (rFa 1 x4) fun x24 =>
  bndV (rLd h x24) fun x25 =>
  bndV (rMax x23 x25) fun x26 =>
  bndV (rIaA 7 1 x3 x19) fun x27 =>
  bndE (rSt h 1 x27 x26) h fun _ h =>
  rc [] h
noncomputable def f125_1 (x2 : V) (x3 : V) (x10 : V) (h : HT) : Option J := bndV (rFa 0 x10) fun x11 =>
  bndV (rLd h x11) fun x12 =>
  bndN (kRng h.heap [x12]) h fun x13 h =>
  bndJ (loopF (fun rc vs h => bndE (dNx h [x13]) h fun x14 h =>
  bndV (rExt 0 x14) fun x15 =>
  tstv x15 (bndV (kEnt h.heap [x13]) fun x16 =>
  (f125_0 rc x3 x16 h))
  (some ⟨0, [], h⟩)) 1000000 [] h)
  fun j vs h => bndV (rLdN h 7 x3) fun x28 =>
  bndE (rSt h 7 x2 x28) h fun _ h =>
  bndV (qLd h (some 7) [x2]) fun x900000 =>
  ret1 x900000 h
noncomputable def f125 (vs : List V) (h : HT) : Option J := unc1 vs fun x0 =>
  bndN (rAlloc [(.int .i64 (.ofNat (nat_lit 0))), (.int .i64 (.ofNat (nat_lit 0))), (.int .i64 (.ofNat (nat_lit 0))), (.int .i64 (.ofNat (nat_lit 0))), (.int .i64 (.ofNat (nat_lit 0))), (.int .i64 (.ofNat (nat_lit 0))), (.int .i64 (.ofNat (nat_lit 0)))] []) h fun x2 h =>
  bndV (rNilc x0) fun x6 =>
  bndV (rFa 1 x6) fun x7 =>
  bndV (rLdN h 7 x7) fun x8 =>
  bndN (rAlloc [(.int .i64 (.ofNat (nat_lit 0))), (.int .i64 (.ofNat (nat_lit 0))), (.int .i64 (.ofNat (nat_lit 0))), (.int .i64 (.ofNat (nat_lit 0))), (.int .i64 (.ofNat (nat_lit 0))), (.int .i64 (.ofNat (nat_lit 0))), (.int .i64 (.ofNat (nat_lit 0)))] []) h fun x3 h =>
  bndE (rSt h 7 x3 x8) h fun _ h =>
  bndV (rNilc x0) fun x10 =>
  (f125_1 x2 x3 x10 h)

/- concord/inst.Right -/
noncomputable def l133 : List (Nat × (List V → HT → Option J)) := []
noncomputable def t133 : Fns := tab l133
noncomputable def f133_0 (x1 : V) (x3 : V) (h : HT) : Option J := bndV (rLd h x3) fun x4 =>
  bndV (rGeq x4 (.int .i64 (.ofNat (nat_lit 0)))) fun x5 =>
  bndC (gsel x5 true (retV (rFa 0 x1) h) h) fun x7 h =>
  bndC (gsel x5 true (retV (rLd h x7) h) h) fun x8 h =>
  bndC (gsel x5 true (retV (rLss x8 (.int .i64 (.ofNat (nat_lit 7)))) h) h) fun x9 h =>
  bndV (rPick x5 x9 (.bool false)) fun x10 =>
  bndC (gsel x10 true (retV (rFa 1 x1) h) h) fun x12 h =>
  bndC (gsel x10 true (retV (rLd h x12) h) h) fun x13 h =>
  bndC (gsel x10 true (retV (rGeq x13 (.int .i64 (.ofNat (nat_lit 1)))) h) h) fun x14 h =>
  bndV (rPick x10 x14 (.bool false)) fun x15 =>
  bndC (gsel x15 true (retV (rFa 1 x1) h) h) fun x17 h =>
  bndC (gsel x15 true (retV (rLd h x17) h) h) fun x18 h =>
  bndC (gsel x15 true (retV (rLeq x18 (.int .i64 (.ofNat (nat_lit 1073741824)))) h) h) fun x19 h =>
  bndV (rPick x15 x19 (.bool false)) fun x20 =>
  ret1 x20 h
noncomputable def f133 (vs : List V) (h : HT) : Option J := unc1 vs fun x0 =>
  bndN (rBox x0) h fun x1 h =>
  bndV (rFa 0 x1) fun x3 =>
  (f133_0 x1 x3 h)

/- (*concord/interf.Index).Attr -/
noncomputable def l126 : List (Nat × (List V → HT → Option J)) := [(133, f133)]
noncomputable def t126 : Fns := tab l126
noncomputable def f126_0 (rc : List V → HT → Option J) (x7 : V) (x8 : V) (x45 : V) (x46 : V) (h : HT) : Option J := bndE (rSt h 1 x46 x45) h fun _ h =>
  bndV (rFa 0 x8) fun x47 =>
  bndV (rLd h x47) fun x48 =>
  bndV (rFa 0 x8) fun x49 =>
  bndV (rLd h x49) fun x50 =>
  bndV (rFa 1 x7) fun x51 =>
  bndV (rIaA 7 1 x51 x50) fun x52 =>
  bndV (rLd h x52) fun x53 =>
  bndV (rFa 1 x8) fun x54 =>
  bndV (rLd h x54) fun x55 =>
  bndV (rMax x53 x55) fun x56 =>
  bndV (rFa 1 x7) fun x57 =>
  bndV (rIaA 7 1 x57 x48) fun x58 =>
  bndE (rSt h 1 x58 x56) h fun _ h =>
  rc [] h
noncomputable def f126_1 (rc : List V → HT → Option J) (x5 : V) (x7 : V) (x8 : V) (x9 : V) (x32 : V) (x34 : V) (h : HT) : Option J := bndC (gsel x32 false (retV (rLdN h 7 x34) h) h) fun x35 h =>
  bndC (gsel x32 false (retV (rLdN h 7 x5) h) h) fun x36 h =>
  bndC (gsel x32 false (noF [x35, x36] h) h) fun x37 h =>
  bndC (gsel x32 false (retV (rNot x37) h) h) fun x38 h =>
  bndV (rPick x32 (.bool true) x38) fun x39 =>
  tstv x39 (rc [] h)
  (bndV (rFa 0 x7) fun x40 =>
  bndV (rLd h x40) fun x41 =>
  bndV (rFa 7 x9) fun x42 =>
  bndV (rLd h x42) fun x43 =>
  bndV (rAdd x43 (.int .i64 (.ofNat (nat_lit 1)))) fun x44 =>
  bndV (rMax x41 x44) fun x45 =>
  bndV (rFa 0 x7) fun x46 =>
  (f126_0 rc x7 x8 x45 x46 h))
noncomputable def f126_2 (rc : List V → HT → Option J) (x4 : V) (x5 : V) (x7 : V) (x8 : V) (x9 : V) (x19 : V) (x20 : V) (h : HT) : Option J := bndE (rSt h 2 x8 x19) h fun _ h =>
  bndE (rSt h 8 x9 x20) h fun _ h =>
  bndV (rFa 0 x8) fun x21 =>
  bndV (rLd h x21) fun x22 =>
  bndV (rFa 0 x4) fun x23 =>
  bndV (rLd h x23) fun x24 =>
  bndV (rEql x22 x24) fun x25 =>
  bndC (gsel x25 true (retV (rFa 1 x8) h) h) fun x27 h =>
  bndC (gsel x25 true (retV (rLd h x27) h) h) fun x28 h =>
  bndC (gsel x25 true (retV (rFa 1 x4) h) h) fun x29 h =>
  bndC (gsel x25 true (retV (rLd h x29) h) h) fun x30 h =>
  bndC (gsel x25 true (retV (rGeq x28 x30) h) h) fun x31 h =>
  bndV (rPick x25 x31 (.bool false)) fun x32 =>
  bndC (gsel x32 false (retV (rFa 0 x9) h) h) fun x34 h =>
  (f126_1 rc x5 x7 x8 x9 x32 x34 h)
noncomputable def f126_3 (x4 : V) (x7 : V) (x59 : V) (x83 : V) (h : HT) : Option J := bndJ (tstv x83 (bndV (rFa 1 x7) fun x86 =>
  bndV (rIaA 7 1 x86 x59) fun x87 =>
  bndV (rLd h x87) fun x88 =>
  bndV (rFa 1 x4) fun x89 =>
  bndV (rLd h x89) fun x90 =>
  bndV (rSub x90 (.int .i64 (.ofNat (nat_lit 1)))) fun x91 =>
  bndV (rMax x88 x91) fun x92 =>
  bndV (rFa 1 x7) fun x93 =>
  bndV (rIaA 7 1 x93 x59) fun x94 =>
  bndE (rSt h 1 x94 x92) h fun _ h =>
  some ⟨0, [], h⟩)
  (some ⟨0, [], h⟩))
  fun j vs h => some ⟨0, [], h⟩
noncomputable def f126_4 (x0 : V) (x4 : V) (x7 : V) (x59 : V) (x66 : V) (h : HT) : Option J := tstv x66 (bndV (rFa 1 x7) fun x69 =>
  bndV (rIaA 7 1 x69 x59) fun x70 =>
  bndV (rLd h x70) fun x71 =>
  bndV (rNilc x0) fun x74 =>
  bndV (rFa 1 x74) fun x75 =>
  bndV (rIaA 7 1 x75 x59) fun x76 =>
  bndV (rLd h x76) fun x77 =>
  bndV (rMax x71 x77) fun x78 =>
  bndV (rFa 1 x7) fun x79 =>
  bndV (rIaA 7 1 x79 x59) fun x80 =>
  bndE (rSt h 1 x80 x78) h fun _ h =>
  some ⟨0, [], h⟩)
  (bndV (rLdN h 2 x4) fun x82 =>
  bndC (f133 [x82] h) fun x83 h =>
  (f126_3 x4 x7 x59 x83 h))
noncomputable def f126_5 (x0 : V) (x4 : V) (x6 : V) (x7 : V) (h : HT) : Option J := bndJ (loopF (fun rc vs h => unc1 vs fun x59 =>
  bndV (rLss x59 (.int .i64 (.ofNat (nat_lit 7)))) fun x60 =>
  tstv x60 (bndV (rFa 0 x4) fun x64 =>
  bndV (rLd h x64) fun x65 =>
  bndV (rNeq x59 x65) fun x66 =>
  bndJ ((f126_4 x0 x4 x7 x59 x66 h))
  fun j vs h => bndV (rAdd x59 (.int .i64 (.ofNat (nat_lit 1)))) fun x95 =>
  rc [x95] h)
  (some ⟨0, [], h⟩)) 1000000 [(.int .i64 (.ofNat (nat_lit 0)))] h)
  fun j vs h => bndV (rLdN h 8 x7) fun x96 =>
  bndE (rSt h 8 x6 x96) h fun _ h =>
  bndV (qLd h (some 8) [x6]) fun x900000 =>
  ret1 x900000 h
noncomputable def f126_6 (x0 : V) (x4 : V) (x5 : V) (x6 : V) (x7 : V) (x13 : V) (h : HT) : Option J := bndV (rLd h x13) fun x14 =>
  bndN (kRng h.heap [x14]) h fun x15 h =>
  bndJ (loopF (fun rc vs h => bndE (dNx h [x15]) h fun x16 h =>
  bndV (rExt 0 x16) fun x17 =>
  tstv x17 (bndV (kEnt h.heap [x15]) fun x18 =>
  bndV (rExt 0 x18) fun x19 =>
  bndV (rExt 1 x18) fun x20 =>
  bndN (rAlloc [(.int .i64 (.ofNat (nat_lit 0))), (.int .i64 (.ofNat (nat_lit 0)))] []) h fun x8 h =>
  bndN (rAlloc [(.int .i64 (.ofNat (nat_lit 0))), (.int .i64 (.ofNat (nat_lit 0))), (.int .i64 (.ofNat (nat_lit 0))), (.str (sb [])), (.str (sb [])), (.str (sb [])), (.str (sb [])), (.int .i64 (.ofNat (nat_lit 0)))] []) h fun x9 h =>
  (f126_2 rc x4 x5 x7 x8 x9 x19 x20 h))
  (some ⟨0, [], h⟩)) 1000000 [] h)
  fun j vs h => (f126_5 x0 x4 x6 x7 h)
noncomputable def f126 (vs : List V) (h : HT) : Option J := unc3 vs fun x0 x1 x2 =>
  bndN (rBox x1) h fun x4 h =>
  bndN (rBox x2) h fun x5 h =>
  bndN (rAlloc [(.int .i64 (.ofNat (nat_lit 0))), (.int .i64 (.ofNat (nat_lit 0))), (.int .i64 (.ofNat (nat_lit 0))), (.int .i64 (.ofNat (nat_lit 0))), (.int .i64 (.ofNat (nat_lit 0))), (.int .i64 (.ofNat (nat_lit 0))), (.int .i64 (.ofNat (nat_lit 0))), (.int .i64 (.ofNat (nat_lit 0)))] []) h fun x6 h =>
  bndN (rAlloc [(.int .i64 (.ofNat (nat_lit 0))), (.int .i64 (.ofNat (nat_lit 0))), (.int .i64 (.ofNat (nat_lit 0))), (.int .i64 (.ofNat (nat_lit 0))), (.int .i64 (.ofNat (nat_lit 0))), (.int .i64 (.ofNat (nat_lit 0))), (.int .i64 (.ofNat (nat_lit 0))), (.int .i64 (.ofNat (nat_lit 0)))] []) h fun x7 h =>
  bndV (rNilc x0) fun x12 =>
  bndV (rFa 0 x12) fun x13 =>
  (f126_6 x0 x4 x5 x6 x7 x13 h)

/- concord/inst.RightBallot -/
noncomputable def l134 : List (Nat × (List V → HT → Option J)) := []
noncomputable def t134 : Fns := tab l134
noncomputable def f134_0 (x1 : V) (x3 : V) (h : HT) : Option J := bndV (rLd h x3) fun x4 =>
  bndV (rGeq x4 (.int .i64 (.ofNat (nat_lit 0)))) fun x5 =>
  bndC (gsel x5 true (retV (rFa 0 x1) h) h) fun x7 h =>
  bndC (gsel x5 true (retV (rLd h x7) h) h) fun x8 h =>
  bndC (gsel x5 true (retV (rLeq x8 (.int .i64 (.ofNat (nat_lit 1073741824)))) h) h) fun x9 h =>
  bndV (rPick x5 x9 (.bool false)) fun x10 =>
  bndC (gsel x10 true (retV (rFa 1 x1) h) h) fun x12 h =>
  bndC (gsel x10 true (retV (rLd h x12) h) h) fun x13 h =>
  bndC (gsel x10 true (retV (rGeq x13 (.int .i64 (.ofNat (nat_lit 0)))) h) h) fun x14 h =>
  bndV (rPick x10 x14 (.bool false)) fun x15 =>
  bndC (gsel x15 true (retV (rFa 1 x1) h) h) fun x17 h =>
  bndC (gsel x15 true (retV (rLd h x17) h) h) fun x18 h =>
  bndC (gsel x15 true (retV (rLss x18 (.int .i64 (.ofNat (nat_lit 7)))) h) h) fun x19 h =>
  bndV (rPick x15 x19 (.bool false)) fun x20 =>
  ret1 x20 h
noncomputable def f134 (vs : List V) (h : HT) : Option J := unc1 vs fun x0 =>
  bndN (rBox x0) h fun x1 h =>
  bndV (rFa 0 x1) fun x3 =>
  (f134_0 x1 x3 h)

/- concord/inst.Below -/
noncomputable def l209 : List (Nat × (List V → HT → Option J)) := []
noncomputable def t209 : Fns := tab l209
noncomputable def f209_0 (x2 : V) (x3 : V) (x6 : V) (x8 : V) (h : HT) : Option J := bndV (rLss x6 x8) fun x9 =>
  bndC (gsel x9 false (retV (rFa 0 x2) h) h) fun x11 h =>
  bndC (gsel x9 false (retV (rLd h x11) h) h) fun x12 h =>
  bndC (gsel x9 false (retV (rFa 0 x3) h) h) fun x13 h =>
  bndC (gsel x9 false (retV (rLd h x13) h) h) fun x14 h =>
  bndC (gsel x9 false (retV (rEql x12 x14) h) h) fun x15 h =>
  bndC (gsel x9 false (retV (kMov [x15]) h) h) fun x16 h =>
  bndC (gsel x16 true (retV (rFa 1 x2) h) h) fun x17 h =>
  bndC (gsel x16 true (retV (rLd h x17) h) h) fun x18 h =>
  bndC (gsel x16 true (retV (rFa 1 x3) h) h) fun x19 h =>
  bndC (gsel x16 true (retV (rLd h x19) h) h) fun x20 h =>
  bndC (gsel x16 true (retV (rLss x18 x20) h) h) fun x21 h =>
  bndC (gsel x9 false (retV (rPick x16 x21 (.bool false)) h) h) fun x22 h =>
  bndV (rPick x9 (.bool true) x22) fun x23 =>
  ret1 x23 h
noncomputable def f209 (vs : List V) (h : HT) : Option J := unc2 vs fun x0 x1 =>
  bndN (rBox x0) h fun x2 h =>
  bndN (rBox x1) h fun x3 h =>
  bndV (rFa 0 x2) fun x5 =>
  bndV (rLd h x5) fun x6 =>
  bndV (rFa 0 x3) fun x7 =>
  bndV (rLd h x7) fun x8 =>
  (f209_0 x2 x3 x6 x8 h)

/- concord/letter.RightCell -/
noncomputable def l135 : List (Nat × (List V → HT → Option J)) := [(48, f48), (101, f101), (134, f134), (209, f209)]
noncomputable def t135 : Fns := tab l135
noncomputable def f135_0 (x1 : V) (x42 : V) (x47 : V) (x48 : V) (x49 : V) (h : HT) : Option J := bndC (gsel x47 true (retV (rLdN h 2 x49) h) h) fun x50 h =>
  bndC (gsel x47 true (retV (rBld [(.int .i64 (.ofNat (nat_lit 0))), (.int .i64 (.ofNat (nat_lit 0))), (.int .i64 (.ofNat (nat_lit 0))), (.int .i64 (.ofNat (nat_lit 0))), (.int .i64 (.ofNat (nat_lit 0))), (.int .i64 (.ofNat (nat_lit 0))), (.int .i64 (.ofNat (nat_lit 0))), (.int .i64 (.ofNat (nat_lit 0))), (.str (sb [])), (.str (sb [])), (.str (sb [])), (.str (sb [])), (.int .i64 (.ofNat (nat_lit 0))), (.int .i64 (.ofNat (nat_lit 0))), (.int .i64 (.ofNat (nat_lit 0))), (.int .i64 (.ofNat (nat_lit 0))), (.int .i64 (.ofNat (nat_lit 0))), (.int .i64 (.ofNat (nat_lit 0))), (.int .i64 (.ofNat (nat_lit 0))), (.int .i64 (.ofNat (nat_lit 0))), (.bool false)] [(1, 2)] [x50]) h) h) fun x51 h =>
  bndC (gsel x47 true (retV (kEqF true [.i, .i, .i, .i, .i, .i, .i, .i, .s, .s, .s, .s, .i, .i, .i, .i, .i, .i, .i, .i, .b] [x48, x51]) h) h) fun x52 h =>
  bndC (gsel x42 false (retV (rPick x47 x52 (.bool false)) h) h) fun x53 h =>
  bndV (rPick x42 (.bool true) x53) fun x54 =>
  tstv x54 (ret1 (.bool false) h)
  (bndV (rFa 5 x1) fun x55 =>
  bndV (rLdN h 7 x55) fun x56 =>
  bndC (f48 [x56] h) fun x57 h =>
  bndC (gsel x57 true (retV (rFa 12 x1) h) h) fun x59 h =>
  bndC (gsel x57 true (retV (rLdN h 8 x59) h) h) fun x60 h =>
  bndC (gsel x57 true (f101 [x60] h) h) fun x61 h =>
  bndV (rPick x57 x61 (.bool false)) fun x62 =>
  ret1 x62 h)
noncomputable def f135_1 (x1 : V) (x31 : V) (x34 : V) (h : HT) : Option J := bndC (gsel x31 true (retV (rNeq x34 (.int .i64 (.ofNat (nat_lit 1)))) h) h) fun x35 h =>
  bndC (gsel x31 true (retV (kMov [x35]) h) h) fun x36 h =>
  bndC (gsel x36 false (retV (rFa 3 x1) h) h) fun x37 h =>
  bndC (gsel x36 false (retV (rLdN h 2 x37) h) h) fun x38 h =>
  bndC (gsel x36 false (retV (rBld [(.int .i64 (.ofNat (nat_lit 0))), (.int .i64 (.ofNat (nat_lit 0)))] [] []) h) h) fun x39 h =>
  bndC (gsel x36 false (retV (kEqF true [.i, .i] [x38, x39]) h) h) fun x40 h =>
  bndC (gsel x31 true (retV (rPick x36 (.bool true) x40) h) h) fun x41 h =>
  bndV (rPick x31 x41 (.bool false)) fun x42 =>
  bndC (gsel x42 false (retV (rFa 0 x1) h) h) fun x44 h =>
  bndC (gsel x42 false (retV (rLd h x44) h) h) fun x45 h =>
  bndC (gsel x42 false (retV (rEql x45 (.int .i64 (.ofNat (nat_lit 0)))) h) h) fun x46 h =>
  bndC (gsel x42 false (retV (kMov [x46]) h) h) fun x47 h =>
  bndC (gsel x47 true (retV (rLdN h 21 x1) h) h) fun x48 h =>
  bndC (gsel x47 true (retV (rFa 1 x1) h) h) fun x49 h =>
  (f135_0 x1 x42 x47 x48 x49 h)
noncomputable def f135_2 (x1 : V) (x16 : V) (x20 : V) (h : HT) : Option J := bndC (gsel x16 false (retV (rNot x20) h) h) fun x21 h =>
  bndV (rPick x16 (.bool true) x21) fun x22 =>
  bndC (gsel x22 false (retV (rFa 1 x1) h) h) fun x24 h =>
  bndC (gsel x22 false (retV (rLdN h 2 x24) h) h) fun x25 h =>
  bndC (gsel x22 false (retV (rFa 3 x1) h) h) fun x26 h =>
  bndC (gsel x22 false (retV (rLdN h 2 x26) h) h) fun x27 h =>
  bndC (gsel x22 false (f209 [x25, x27] h) h) fun x28 h =>
  bndV (rPick x22 (.bool true) x28) fun x29 =>
  tstv x29 (ret1 (.bool false) h)
  (bndV (rFa 20 x1) fun x30 =>
  bndV (rLd h x30) fun x31 =>
  bndC (gsel x31 true (retV (rFa 0 x1) h) h) fun x33 h =>
  bndC (gsel x31 true (retV (rLd h x33) h) h) fun x34 h =>
  (f135_1 x1 x31 x34 h))
noncomputable def f135_3 (x1 : V) (x3 : V) (h : HT) : Option J := bndV (rLd h x3) fun x4 =>
  bndV (rLss x4 (.int .i64 (.ofNat (nat_lit 0)))) fun x5 =>
  bndC (gsel x5 false (retV (rFa 0 x1) h) h) fun x7 h =>
  bndC (gsel x5 false (retV (rLd h x7) h) h) fun x8 h =>
  bndC (gsel x5 false (retV (rGtr x8 (.int .i64 (.ofNat (nat_lit 3)))) h) h) fun x9 h =>
  bndV (rPick x5 (.bool true) x9) fun x10 =>
  bndC (gsel x10 false (retV (rFa 1 x1) h) h) fun x12 h =>
  bndC (gsel x10 false (retV (rLdN h 2 x12) h) h) fun x13 h =>
  bndC (gsel x10 false (f134 [x13] h) h) fun x14 h =>
  bndC (gsel x10 false (retV (rNot x14) h) h) fun x15 h =>
  bndV (rPick x10 (.bool true) x15) fun x16 =>
  bndC (gsel x16 false (retV (rFa 3 x1) h) h) fun x18 h =>
  bndC (gsel x16 false (retV (rLdN h 2 x18) h) h) fun x19 h =>
  bndC (gsel x16 false (f134 [x19] h) h) fun x20 h =>
  (f135_2 x1 x16 x20 h)
noncomputable def f135 (vs : List V) (h : HT) : Option J := unc1 vs fun x0 =>
  bndN (rBox x0) h fun x1 h =>
  bndV (rFa 0 x1) fun x3 =>
  (f135_3 x1 x3 h)

/- (*concord/log.Log).Gone -/
noncomputable def l139 : List (Nat × (List V → HT → Option J)) := [(133, f133)]
noncomputable def t139 : Fns := tab l139
noncomputable def f139_0 (x0 : V) (x1 : V) (h : HT) : Option J := bndN (rBox x1) h fun x3 h =>
  bndV (rLdN h 2 x3) fun x5 =>
  bndC (f133 [x5] h) fun x6 h =>
  bndC (gsel x6 true (retV (rFa 1 x3) h) h) fun x8 h =>
  bndC (gsel x6 true (retV (rLd h x8) h) h) fun x9 h =>
  bndC (gsel x6 true (retV (kMov [x0]) h) h) fun x10 h =>
  bndC (gsel x6 true (retV (rFa 0 x3) h) h) fun x11 h =>
  bndC (gsel x6 true (retV (rLd h x11) h) h) fun x12 h =>
  bndC (gsel x6 true (retV (rNilc x10) h) h) fun x13 h =>
  bndC (gsel x6 true (retV (rFa 1 x13) h) h) fun x14 h =>
  bndC (gsel x6 true (retV (rIaA 7 1 x14 x12) h) h) fun x15 h =>
  bndC (gsel x6 true (retV (rLd h x15) h) h) fun x16 h =>
  bndC (gsel x6 true (retV (rLeq x9 x16) h) h) fun x17 h =>
  bndV (rPick x6 x17 (.bool false)) fun x18 =>
  ret1 x18 h
noncomputable def f139 (vs : List V) (h : HT) : Option J := unc2 vs fun x0 x1 =>
  (f139_0 x0 x1 h)

/- concord/log.may -/
noncomputable def l184 : List (Nat × (List V → HT → Option J)) := [(209, f209)]
noncomputable def t184 : Fns := tab l184
noncomputable def f184_0 (x2 : V) (x3 : V) (x31 : V) (x37 : V) (h : HT) : Option J := bndV (rPick x31 (.bool true) x37) fun x38 =>
  tstv x38 (ret1 (.bool false) h)
  (bndV (rFa 0 x3) fun x39 =>
  bndV (rLd h x39) fun x40 =>
  bndV (rFa 0 x2) fun x41 =>
  bndV (rLd h x41) fun x42 =>
  bndV (rGeq x40 x42) fun x43 =>
  bndC (gsel x43 false (retV (rFa 3 x3) h) h) fun x45 h =>
  bndC (gsel x43 false (retV (rLdN h 2 x45) h) h) fun x46 h =>
  bndC (gsel x43 false (retV (rFa 3 x2) h) h) fun x47 h =>
  bndC (gsel x43 false (retV (rLdN h 2 x47) h) h) fun x48 h =>
  bndC (gsel x43 false (retV (kEqF true [.i, .i] [x46, x48]) h) h) fun x49 h =>
  bndV (rPick x43 (.bool true) x49) fun x50 =>
  ret1 x50 h)
noncomputable def f184_1 (x2 : V) (x3 : V) (x7 : V) (x19 : V) (x24 : V) (h : HT) : Option J := bndC (gsel x7 true (retV (rPick x19 (.bool true) x24) h) h) fun x25 h =>
  bndV (rPick x7 x25 (.bool false)) fun x26 =>
  tstv x26 (ret1 (.bool false) h)
  (bndV (rFa 1 x3) fun x27 =>
  bndV (rLdN h 2 x27) fun x28 =>
  bndV (rFa 1 x2) fun x29 =>
  bndV (rLdN h 2 x29) fun x30 =>
  bndC (f209 [x28, x30] h) fun x31 h =>
  bndC (gsel x31 false (retV (rFa 3 x3) h) h) fun x33 h =>
  bndC (gsel x31 false (retV (rLdN h 2 x33) h) h) fun x34 h =>
  bndC (gsel x31 false (retV (rFa 3 x2) h) h) fun x35 h =>
  bndC (gsel x31 false (retV (rLdN h 2 x35) h) h) fun x36 h =>
  bndC (gsel x31 false (f209 [x34, x36] h) h) fun x37 h =>
  (f184_0 x2 x3 x31 x37 h))
noncomputable def f184_2 (x2 : V) (x3 : V) (x7 : V) (x10 : V) (h : HT) : Option J := bndC (gsel x7 true (retV (rNeq x10 (.int .i64 (.ofNat (nat_lit 3)))) h) h) fun x11 h =>
  bndC (gsel x7 true (retV (kMov [x11]) h) h) fun x12 h =>
  bndC (gsel x12 false (retV (rFa 5 x3) h) h) fun x13 h =>
  bndC (gsel x12 false (retV (rLdN h 7 x13) h) h) fun x14 h =>
  bndC (gsel x12 false (retV (rFa 5 x2) h) h) fun x15 h =>
  bndC (gsel x12 false (retV (rLdN h 7 x15) h) h) fun x16 h =>
  bndC (gsel x12 false (retV (kEqF true [.i, .i, .i, .s, .s, .s, .s] [x14, x16]) h) h) fun x17 h =>
  bndC (gsel x7 true (retV (rPick x12 (.bool true) x17) h) h) fun x18 h =>
  bndC (gsel x7 true (retV (kMov [x18]) h) h) fun x19 h =>
  bndC (gsel x19 false (retV (rFa 12 x3) h) h) fun x20 h =>
  bndC (gsel x19 false (retV (rLdN h 8 x20) h) h) fun x21 h =>
  bndC (gsel x19 false (retV (rFa 12 x2) h) h) fun x22 h =>
  bndC (gsel x19 false (retV (rLdN h 8 x22) h) h) fun x23 h =>
  bndC (gsel x19 false (retV (kEqF true [.i, .i, .i, .i, .i, .i, .i, .i] [x21, x23]) h) h) fun x24 h =>
  (f184_1 x2 x3 x7 x19 x24 h)
noncomputable def f184 (vs : List V) (h : HT) : Option J := unc2 vs fun x0 x1 =>
  bndN (rBox x0) h fun x2 h =>
  bndN (rBox x1) h fun x3 h =>
  bndV (rFa 0 x2) fun x5 =>
  bndV (rLd h x5) fun x6 =>
  bndV (rEql x6 (.int .i64 (.ofNat (nat_lit 3)))) fun x7 =>
  bndC (gsel x7 true (retV (rFa 0 x3) h) h) fun x9 h =>
  bndC (gsel x7 true (retV (rLd h x9) h) h) fun x10 h =>
  (f184_2 x2 x3 x7 x10 h)

/- (*concord/log.Log).Set -/
noncomputable def l106 : List (Nat × (List V → HT → Option J)) := [(133, f133), (135, f135), (139, f139), (184, f184)]
noncomputable def t106 : Fns := tab l106
noncomputable def f106_0 (x0 : V) (x4 : V) (x5 : V) (x7 : V) (x29 : V) (x30 : V) (h : HT) : Option J := bndE (rSt h 21 x7 x29) h fun _ h =>
  bndC (gsel x30 true (retV (rLdN h 21 x7) h) h) fun x33 h =>
  bndC (gsel x30 true (retV (rLdN h 21 x5) h) h) fun x34 h =>
  bndC (gsel x30 true (f184 [x33, x34] h) h) fun x35 h =>
  bndC (gsel x30 true (retV (rNot x35) h) h) fun x36 h =>
  bndV (rPick x30 x36 (.bool false)) fun x37 =>
  tstv x37 (ret1 (.bool false) h)
  (bndV (rNilc x0) fun x39 =>
  bndV (rFa 0 x39) fun x40 =>
  bndV (rLd h x40) fun x41 =>
  bndV (rLdN h 2 x4) fun x42 =>
  bndV (rLdN h 21 x5) fun x43 =>
  bndE (dMset h true [.i, .i] [x41, x42, x43]) h fun _ h =>
  ret1 (.bool true) h)
noncomputable def f106_1 (x0 : V) (x4 : V) (x5 : V) (x16 : V) (h : HT) : Option J := bndC (gsel x16 false (retV (rLdN h 21 x5) h) h) fun x18 h =>
  bndC (gsel x16 false (f135 [x18] h) h) fun x19 h =>
  bndC (gsel x16 false (retV (rNot x19) h) h) fun x20 h =>
  bndV (rPick x16 (.bool true) x20) fun x21 =>
  tstv x21 (ret1 (.bool false) h)
  (bndV (rNilc x0) fun x24 =>
  bndV (rFa 0 x24) fun x25 =>
  bndV (rLd h x25) fun x26 =>
  bndV (rLdN h 2 x4) fun x27 =>
  bndV (kLkp h.heap true [.i, .i] (.agg [(.int .i64 (.ofNat (nat_lit 0))), (.int .i64 (.ofNat (nat_lit 0))), (.int .i64 (.ofNat (nat_lit 0))), (.int .i64 (.ofNat (nat_lit 0))), (.int .i64 (.ofNat (nat_lit 0))), (.int .i64 (.ofNat (nat_lit 0))), (.int .i64 (.ofNat (nat_lit 0))), (.int .i64 (.ofNat (nat_lit 0))), (.str (sb [])), (.str (sb [])), (.str (sb [])), (.str (sb [])), (.int .i64 (.ofNat (nat_lit 0))), (.int .i64 (.ofNat (nat_lit 0))), (.int .i64 (.ofNat (nat_lit 0))), (.int .i64 (.ofNat (nat_lit 0))), (.int .i64 (.ofNat (nat_lit 0))), (.int .i64 (.ofNat (nat_lit 0))), (.int .i64 (.ofNat (nat_lit 0))), (.int .i64 (.ofNat (nat_lit 0))), (.bool false)]) true [x26, x27]) fun x28 =>
  bndV (rExt 0 x28) fun x29 =>
  bndV (rExt 1 x28) fun x30 =>
  bndN (rAlloc [(.int .i64 (.ofNat (nat_lit 0))), (.int .i64 (.ofNat (nat_lit 0))), (.int .i64 (.ofNat (nat_lit 0))), (.int .i64 (.ofNat (nat_lit 0))), (.int .i64 (.ofNat (nat_lit 0))), (.int .i64 (.ofNat (nat_lit 0))), (.int .i64 (.ofNat (nat_lit 0))), (.int .i64 (.ofNat (nat_lit 0))), (.str (sb [])), (.str (sb [])), (.str (sb [])), (.str (sb [])), (.int .i64 (.ofNat (nat_lit 0))), (.int .i64 (.ofNat (nat_lit 0))), (.int .i64 (.ofNat (nat_lit 0))), (.int .i64 (.ofNat (nat_lit 0))), (.int .i64 (.ofNat (nat_lit 0))), (.int .i64 (.ofNat (nat_lit 0))), (.int .i64 (.ofNat (nat_lit 0))), (.int .i64 (.ofNat (nat_lit 0))), (.bool false)] []) h fun x7 h =>
  (f106_0 x0 x4 x5 x7 x29 x30 h))
noncomputable def f106 (vs : List V) (h : HT) : Option J := unc3 vs fun x0 x1 x2 =>
  bndN (rBox x1) h fun x4 h =>
  bndN (rBox x2) h fun x5 h =>
  bndV (rLdN h 2 x4) fun x9 =>
  bndC (f133 [x9] h) fun x10 h =>
  bndV (rNot x10) fun x11 =>
  bndC (gsel x11 false (retV (kMov [x0]) h) h) fun x13 h =>
  bndC (gsel x11 false (retV (rLdN h 2 x4) h) h) fun x14 h =>
  bndC (gsel x11 false (f139 [x13, x14] h) h) fun x15 h =>
  bndV (rPick x11 (.bool true) x15) fun x16 =>
  (f106_1 x0 x4 x5 x16 h)

/- (*concord/interf.Index).Note -/
noncomputable def l185 : List (Nat × (List V → HT → Option J)) := [(48, f48), (133, f133)]
noncomputable def t185 : Fns := tab l185
noncomputable def f185_0 (x0 : V) (x3 : V) (x5 : V) (x6 : V) (x28 : V) (x30 : V) (h : HT) : Option J := bndC (gsel x28 false (retV (rLss x30 (.int .i64 (.ofNat (nat_lit 0)))) h) h) fun x31 h =>
  bndV (rPick x28 (.bool true) x31) fun x32 =>
  bndC (gsel x32 false (retV (kMov [x3]) h) h) fun x34 h =>
  bndC (gsel x32 false (retV (rGtr x34 (.int .i64 (.ofNat (nat_lit 1099511627776)))) h) h) fun x35 h =>
  bndV (rPick x32 (.bool true) x35) fun x36 =>
  tstv x36 (ret1 (.bool false) h)
  (bndV (rNilc x0) fun x38 =>
  bndV (rFa 0 x38) fun x39 =>
  bndV (rLd h x39) fun x40 =>
  bndV (rLdN h 2 x5) fun x41 =>
  bndV (rLdN h 7 x6) fun x42 =>
  bndV (rBld [(.int .i64 (.ofNat (nat_lit 0))), (.int .i64 (.ofNat (nat_lit 0))), (.int .i64 (.ofNat (nat_lit 0))), (.str (sb [])), (.str (sb [])), (.str (sb [])), (.str (sb [])), (.int .i64 (.ofNat (nat_lit 0)))] [(0, 7), (7, 1)] [x42, x3]) fun x44 =>
  bndE (dMset h true [.i, .i] [x40, x41, x44]) h fun _ h =>
  ret1 (.bool true) h)
noncomputable def f185_1 (x0 : V) (x3 : V) (x5 : V) (x6 : V) (x11 : V) (x14 : V) (h : HT) : Option J := bndC (gsel x11 false (retV (kMov [x0]) h) h) fun x15 h =>
  bndC (gsel x11 false (retV (rFa 0 x5) h) h) fun x16 h =>
  bndC (gsel x11 false (retV (rLd h x16) h) h) fun x17 h =>
  bndC (gsel x11 false (retV (rNilc x15) h) h) fun x18 h =>
  bndC (gsel x11 false (retV (rFa 1 x18) h) h) fun x19 h =>
  bndC (gsel x11 false (retV (rIaA 7 1 x19 x17) h) h) fun x20 h =>
  bndC (gsel x11 false (retV (rLd h x20) h) h) fun x21 h =>
  bndC (gsel x11 false (retV (rLeq x14 x21) h) h) fun x22 h =>
  bndV (rPick x11 (.bool true) x22) fun x23 =>
  bndC (gsel x23 false (retV (rLdN h 7 x6) h) h) fun x25 h =>
  bndC (gsel x23 false (f48 [x25] h) h) fun x26 h =>
  bndC (gsel x23 false (retV (rNot x26) h) h) fun x27 h =>
  bndV (rPick x23 (.bool true) x27) fun x28 =>
  bndC (gsel x28 false (retV (kMov [x3]) h) h) fun x30 h =>
  (f185_0 x0 x3 x5 x6 x28 x30 h)
noncomputable def f185 (vs : List V) (h : HT) : Option J := unc4 vs fun x0 x1 x2 x3 vs =>
  bndN (rBox x1) h fun x5 h =>
  bndN (rBox x2) h fun x6 h =>
  bndV (rLdN h 2 x5) fun x9 =>
  bndC (f133 [x9] h) fun x10 h =>
  bndV (rNot x10) fun x11 =>
  bndC (gsel x11 false (retV (rFa 1 x5) h) h) fun x13 h =>
  bndC (gsel x11 false (retV (rLd h x13) h) h) fun x14 h =>
  (f185_1 x0 x3 x5 x6 x11 x14 h)

/- (*concord/core.Core).note -/
noncomputable def l107 : List (Nat × (List V → HT → Option J)) := [(185, f185)]
noncomputable def t107 : Fns := tab l107
noncomputable def f107_0 (x0 : V) (x4 : V) (x5 : V) (x6 : V) (h : HT) : Option J := bndV (rLd h x6) fun x7 =>
  bndV (rNeq x7 (.int .i64 (.ofNat (nat_lit 0)))) fun x8 =>
  tstv x8 (bndV (rNilc x0) fun x10 =>
  bndV (rFa 3 x10) fun x11 =>
  bndV (rLd h x11) fun x12 =>
  bndV (rLdN h 2 x4) fun x13 =>
  bndV (rFa 5 x5) fun x14 =>
  bndV (rLdN h 7 x14) fun x15 =>
  bndV (rFa 12 x5) fun x16 =>
  bndV (rFa 0 x16) fun x17 =>
  bndV (rLd h x17) fun x18 =>
  bndC (f185 [x12, x13, x15, x18] h) fun x19 h =>
  ret1 (.tuple []) h)
  (ret1 (.tuple []) h)
noncomputable def f107 (vs : List V) (h : HT) : Option J := unc3 vs fun x0 x1 x2 =>
  bndN (rBox x1) h fun x4 h =>
  bndN (rBox x2) h fun x5 h =>
  bndV (rFa 0 x5) fun x6 =>
  (f107_0 x0 x4 x5 x6 h)

/- concord/pack.Flag -/
noncomputable def l263 : List (Nat × (List V → HT → Option J)) := [(179, f179)]
noncomputable def t263 : Fns := tab l263

noncomputable def f263 (vs : List V) (h : HT) : Option J := unc2 vs fun x0 x1 =>
  tstv x1 (bndC (f179 [x0, (.int .i64 (.ofNat (nat_lit 1)))] h) fun x7 h =>
  bndN (rBsl 1 1 [(.int .u8 (.ofNat (nat_lit 0)))] [(0, 1)] [(.int .u8 (.ofNat (nat_lit 1)))]) h fun x8 h =>
  bndE (dApp h 1 1 [x7, x8]) h fun x9 h =>
  ret1 x9 h)
  (bndC (f179 [x0, (.int .i64 (.ofNat (nat_lit 1)))] h) fun x11 h =>
  bndN (rBsl 1 1 [(.int .u8 (.ofNat (nat_lit 0)))] [(0, 1)] [(.int .u8 (.ofNat (nat_lit 0)))]) h fun x12 h =>
  bndE (dApp h 1 1 [x11, x12]) h fun x13 h =>
  ret1 x13 h)

/- concord/letter.ballot -/
noncomputable def l320 : List (Nat × (List V → HT → Option J)) := [(110, f110)]
noncomputable def t320 : Fns := tab l320

noncomputable def f320 (vs : List V) (h : HT) : Option J := unc2 vs fun x0 x1 =>
  bndN (rBox x1) h fun x3 h =>
  bndV (rFa 0 x3) fun x6 =>
  bndV (rLd h x6) fun x7 =>
  bndV (rFa 1 x3) fun x9 =>
  bndV (rLd h x9) fun x10 =>
  bndC (f110 [x0, x7] h) fun x8 h =>
  chk1 (sameE (rLd h x9) x10) (bndC (f110 [x8, x10] h) fun x11 h =>
  ret1 x11 h)

/- concord/pack.Text -/
noncomputable def l264 : List (Nat × (List V → HT → Option J)) := [(179, f179), (187, f187)]
noncomputable def t264 : Fns := tab l264

noncomputable def f264 (vs : List V) (h : HT) : Option J := unc2 vs fun x0 x1 =>
  bndV (kLenT [x1]) fun x7 =>
  bndV (rAdd (.int .i64 (.ofNat (nat_lit 10))) x7) fun x8 =>
  bndC (f179 [x0, x8] h) fun x9 h =>
  bndV (kLenT [x1]) fun x11 =>
  bndC (f187 [x9, x11] h) fun x12 h =>
  bndE (dAppStr h [x12, x1]) h fun x14 h =>
  ret1 x14 h

/- concord/cmd.Put -/
noncomputable def l321 : List (Nat × (List V → HT → Option J)) := [(48, f48), (110, f110), (264, f264)]
noncomputable def t321 : Fns := tab l321
noncomputable def f321_0 (x3 : V) (x27 : V) (x29 : V) (x37 : V) (h : HT) : Option J := tstv x37 (bndV (rFa 5 x3) fun x39 =>
  bndV (rLd h x39) fun x40 =>
  bndV (rFa 6 x3) fun x42 =>
  bndV (rLd h x42) fun x43 =>
  bndC (f264 [x27, x40] h) fun x41 h =>
  chk1 (sameE (rLd h x42) x43) (bndC (f264 [x41, x43] h) fun x44 h =>
  some ⟨0, [x44], h⟩))
  (bndV (rEql x29 (.int .i64 (.ofNat (nat_lit 5)))) fun x46 =>
  bndJ (tstv x46 (bndV (rFa 4 x3) fun x48 =>
  bndV (rLd h x48) fun x49 =>
  bndC (f264 [x27, x49] h) fun x50 h =>
  some ⟨0, [x50], h⟩)
  (some ⟨0, [x27], h⟩))
  fun j vs h => unc1 vs fun x0_1 =>
  some ⟨0, [x0_1], h⟩)
noncomputable def f321_1 (x3 : V) (x27 : V) (x28 : V) (h : HT) : Option J := bndV (rLd h x28) fun x29 =>
  bndV (rEql x29 (.int .i64 (.ofNat (nat_lit 2)))) fun x31 =>
  bndJ (tstv x31 (bndV (rFa 6 x3) fun x33 =>
  bndV (rLd h x33) fun x34 =>
  bndC (f264 [x27, x34] h) fun x35 h =>
  some ⟨0, [x35], h⟩)
  (bndV (rEql x29 (.int .i64 (.ofNat (nat_lit 4)))) fun x37 =>
  bndJ ((f321_0 x3 x27 x29 x37 h))
  fun j vs h => unc1 vs fun x0_1 =>
  some ⟨0, [x0_1], h⟩))
  fun j vs h => unc1 vs fun x0_1 =>
  ret1 x0_1 h
noncomputable def f321_2 (x3 : V) (x13 : V) (x16 : V) (h : HT) : Option J := tstv x16 (ret1 x13 h)
  (bndV (rFa 1 x3) fun x19 =>
  bndV (rLd h x19) fun x20 =>
  bndV (rFa 2 x3) fun x22 =>
  bndV (rLd h x22) fun x23 =>
  bndV (rFa 3 x3) fun x25 =>
  bndV (rLd h x25) fun x26 =>
  bndC (f110 [x13, x20] h) fun x21 h =>
  chk1 (sameE (rLd h x25) x26) (chk1 (sameE (rLd h x22) x23) (bndC (f110 [x21, x23] h) fun x24 h =>
  chk1 (sameE (rLd h x25) x26) (bndC (f264 [x24, x26] h) fun x27 h =>
  bndV (rFa 0 x3) fun x28 =>
  (f321_1 x3 x27 x28 h)))))
noncomputable def f321 (vs : List V) (h : HT) : Option J := unc2 vs fun x0 x1 =>
  bndN (rBox x1) h fun x3 h =>
  bndV (rLdN h 7 x3) fun x5 =>
  bndC (f48 [x5] h) fun x6 h =>
  bndV (rNot x6) fun x7 =>
  tstv x7 (bndE (dApp h 1 1 [(.slice none 0 true 0), x0]) h fun x9 h =>
  ret1 x9 h)
  (bndV (rFa 0 x3) fun x11 =>
  bndV (rLd h x11) fun x12 =>
  bndC (f110 [x0, x12] h) fun x13 h =>
  bndV (rFa 0 x3) fun x14 =>
  bndV (rLd h x14) fun x15 =>
  bndV (rEql x15 (.int .i64 (.ofNat (nat_lit 0)))) fun x16 =>
  (f321_2 x3 x13 x16 h))

/- concord/deps.Put -/
noncomputable def l322 : List (Nat × (List V → HT → Option J)) := [(110, f110)]
noncomputable def t322 : Fns := tab l322
noncomputable def f322_0 (x0 : V) (x3 : V) (x9 : V) (h : HT) : Option J := bndC (f110 [x0, x9] h) fun x10 h =>
  bndV (rFa 1 x3) fun x11 =>
  bndV (rLdN h 7 x11) fun x12 =>
  bndJ (loopF (fun rc vs h => unc2 vs fun x0_1 x13 =>
  bndV (rLss x13 (.int .i64 (.ofNat (nat_lit 7)))) fun x14 =>
  tstv x14 (bndV (rIxA 7 1 x12 x13) fun x15 =>
  bndC (f110 [x0_1, x15] h) fun x18 h =>
  bndV (rAdd x13 (.int .i64 (.ofNat (nat_lit 1)))) fun x19 =>
  rc [x18, x19] h)
  (some ⟨0, [x0_1], h⟩)) 1000000 [x10, (.int .i64 (.ofNat (nat_lit 0)))] h)
  fun j vs h => unc1 vs fun x0_1 =>
  ret1 x0_1 h
noncomputable def f322 (vs : List V) (h : HT) : Option J := unc2 vs fun x0 x1 =>
  bndN (rBox x1) h fun x3 h =>
  bndV (rFa 0 x3) fun x8 =>
  bndV (rLd h x8) fun x9 =>
  (f322_0 x0 x3 x9 h)

/- concord/letter.PutCell -/
noncomputable def l269 : List (Nat × (List V → HT → Option J)) := [(110, f110), (135, f135), (263, f263), (320, f320), (321, f321), (322, f322)]
noncomputable def t269 : Fns := tab l269
noncomputable def f269_0 (x3 : V) (x16 : V) (h : HT) : Option J := bndV (rFa 3 x3) fun x22 =>
  bndV (rLdN h 2 x22) fun x23 =>
  bndV (rFa 5 x3) fun x25 =>
  bndV (rLdN h 7 x25) fun x26 =>
  bndC (f320 [x16, x23] h) fun x24 h =>
  chk1 (sameE (rLdN h 7 x25) x26) (bndC (f321 [x24, x26] h) fun x27 h =>
  bndV (rFa 12 x3) fun x29 =>
  bndV (rLdN h 8 x29) fun x30 =>
  bndV (rFa 20 x3) fun x32 =>
  bndV (rLd h x32) fun x33 =>
  bndC (f322 [x27, x30] h) fun x31 h =>
  chk1 (sameE (rLd h x32) x33) (bndC (f263 [x31, x33] h) fun x34 h =>
  ret1 x34 h))
noncomputable def f269_1 (x0 : V) (x3 : V) (x7 : V) (h : HT) : Option J := tstv x7 (bndE (dApp h 1 1 [(.slice none 0 true 0), x0]) h fun x9 h =>
  ret1 x9 h)
  (bndV (rFa 0 x3) fun x11 =>
  bndV (rLd h x11) fun x12 =>
  bndV (rFa 1 x3) fun x14 =>
  bndV (rLdN h 2 x14) fun x15 =>
  bndC (f110 [x0, x12] h) fun x13 h =>
  chk1 (sameE (rLdN h 2 x14) x15) (bndC (f320 [x13, x15] h) fun x16 h =>
  bndV (rFa 0 x3) fun x17 =>
  bndV (rLd h x17) fun x18 =>
  bndV (rEql x18 (.int .i64 (.ofNat (nat_lit 0)))) fun x19 =>
  tstv x19 (ret1 x16 h)
  ((f269_0 x3 x16 h))))
noncomputable def f269 (vs : List V) (h : HT) : Option J := unc2 vs fun x0 x1 =>
  bndN (rBox x1) h fun x3 h =>
  bndV (rLdN h 21 x3) fun x5 =>
  bndC (f135 [x5] h) fun x6 h =>
  bndV (rNot x6) fun x7 =>
  (f269_1 x0 x3 x7 h)

/- concord/log.Record -/
noncomputable def l202 : List (Nat × (List V → HT → Option J)) := [(110, f110), (269, f269)]
noncomputable def t202 : Fns := tab l202

noncomputable def f202 (vs : List V) (h : HT) : Option J := unc2 vs fun x0 x1 =>
  bndN (rBox x0) h fun x2 h =>
  bndN (rBox x1) h fun x3 h =>
  bndV (rFa 0 x2) fun x5 =>
  bndV (rLd h x5) fun x6 =>
  bndV (rFa 1 x2) fun x8 =>
  bndV (rLd h x8) fun x9 =>
  bndV (rLdN h 21 x3) fun x11 =>
  bndC (f110 [(.slice none 0 true 0), x6] h) fun x7 h =>
  chk1 (sameE (rLdN h 21 x3) x11) (chk1 (sameE (rLd h x8) x9) (bndC (f110 [x7, x9] h) fun x10 h =>
  chk1 (sameE (rLdN h 21 x3) x11) (bndC (f269 [x10, x11] h) fun x12 h =>
  ret1 x12 h)))

/- (*concord/core.Core).set -/
noncomputable def l127 : List (Nat × (List V → HT → Option J)) := [(106, f106), (107, f107), (202, f202)]
noncomputable def t127 : Fns := tab l127
noncomputable def f127_0 (x0 : V) (x4 : V) (x5 : V) (x17 : V) (h : HT) : Option J := bndV (rFa 6 x17) fun x18 =>
  bndV (rLd h x18) fun x19 =>
  bndV (rLdN h 2 x4) fun x20 =>
  bndV (rLdN h 21 x5) fun x21 =>
  bndC (f202 [x20, x21] h) fun x22 h =>
  chk1 (sameE (rLd h x18) x19) (bndN (rBsl 1 1 [(.slice none 0 true 0)] [(0, 1)] [x22]) h fun x23 h =>
  bndE (dApp h 1 24 [x19, x23]) h fun x24 h =>
  bndV (rNilc x0) fun x25 =>
  bndV (rFa 6 x25) fun x26 =>
  bndE (rSt h 1 x26 x24) h fun _ h =>
  bndV (rLdN h 2 x4) fun x28 =>
  bndV (rLdN h 21 x5) fun x29 =>
  bndC (f107 [x0, x28, x29] h) fun x30 h =>
  ret1 (.bool true) h)
noncomputable def f127 (vs : List V) (h : HT) : Option J := unc3 vs fun x0 x1 x2 =>
  bndN (rBox x1) h fun x4 h =>
  bndN (rBox x2) h fun x5 h =>
  bndV (rNilc x0) fun x8 =>
  bndV (rFa 2 x8) fun x9 =>
  bndV (rLd h x9) fun x10 =>
  bndV (rLdN h 2 x4) fun x11 =>
  bndV (rLdN h 21 x5) fun x12 =>
  bndC (f106 [x10, x11, x12] h) fun x13 h =>
  bndV (rNot x13) fun x14 =>
  tstv x14 (ret1 (.bool false) h)
  (bndV (rNilc x0) fun x17 =>
  (f127_0 x0 x4 x5 x17 h))

/- (*concord/core.Core).leave$1 -/
noncomputable def l275 : List (Nat × (List V → HT → Option J)) := []
noncomputable def t275 : Fns := tab l275

noncomputable def f275 (vs : List V) (h : HT) : Option J := unc2 vs fun x0 x1 =>
  bndV (rNilc x0) fun x5 =>
  bndV (rFa 0 x5) fun x6 =>
  bndV (rLdN h 2 x6) fun x7 =>
  bndV (rLdN h 2 x1) fun x8 =>
  bndV (kEqF false [.i, .i] [x7, x8]) fun x9 =>
  ret1 x9 h

/- slices.IndexFunc[[]*concord/core.lead,*concord/core.lead] -/
noncomputable def l319 : List (Nat × (List V → HT → Option J)) := [(275, f275)]
noncomputable def t319 : Fns := tab l319
noncomputable def f319_0 (x0 : V) (x1 : V) (x7 : V) (h : HT) : Option J := bndJ (loopF (fun rc vs h => unc1 vs fun x8 =>
  bndV (rLss x8 x7) fun x9 =>
  tstv x9 (bndV (rIaS 1 x0 x8) fun x14 =>
  bndV (rLd h x14) fun x15 =>
  bndC (callvT t319 [x1, x15] h) fun x16 h =>
  tstv x16 (some ⟨1, [x8], h⟩)
  (bndV (rAdd x8 (.int .i64 (.ofNat (nat_lit 1)))) fun x18 =>
  rc [x18] h))
  (some ⟨0, [], h⟩)) 1000000 [(.int .i64 (.ofNat (nat_lit 0)))] h)
  fun j vs h => nsw j (ret1 (.int .i64 (.negSucc (nat_lit 0))) h)
  fun j => unc1 vs fun x4 =>
  ret1 x4 h
noncomputable def f319 (vs : List V) (h : HT) : Option J := unc2 vs fun x0 x1 =>
  bndV (rLenS x0) fun x7 =>
  (f319_0 x0 x1 x7 h)

/- slices.DeleteFunc[[]*concord/core.lead,*concord/core.lead] -/
noncomputable def l266 : List (Nat × (List V → HT → Option J)) := [(319, f319)]
noncomputable def t266 : Fns := tab l266
noncomputable def f266_0 (rc : List V → HT → Option J) (x0 : V) (x1 : V) (x5 : V) (x6 : V) (x19 : V) (h : HT) : Option J := tstv x19 (bndV (rIaS 1 x0 x6) fun x24 =>
  bndV (rLd h x24) fun x25 =>
  bndC (callvT t266 [x1, x25] h) fun x28 h =>
  bndV (rNot x28) fun x29 =>
  bndJ (tstv x29 (bndV (rIaS 1 x0 x5) fun x33 =>
  bndE (rSt h 1 x33 x25) h fun _ h =>
  bndV (rAdd x5 (.int .i64 (.ofNat (nat_lit 1)))) fun x35 =>
  some ⟨0, [x35], h⟩)
  (some ⟨0, [x5], h⟩))
  fun j vs h => unc1 vs fun x5 =>
  bndV (rAdd x6 (.int .i64 (.ofNat (nat_lit 1)))) fun x21 =>
  rc [x5, x21] h)
  (some ⟨0, [x5], h⟩)
noncomputable def f266_1 (x0 : V) (x1 : V) (x10 : V) (h : HT) : Option J := bndV (rEql x10 (.int .i64 (.negSucc (nat_lit 0)))) fun x12 =>
  tstv x12 (ret1 x0 h)
  (bndV (rAdd x10 (.int .i64 (.ofNat (nat_lit 1)))) fun x15 =>
  bndJ (loopF (fun rc vs h => unc2 vs fun x5 x6 =>
  bndV (rLenS x0) fun x18 =>
  bndV (rLss x6 x18) fun x19 =>
  (f266_0 rc x0 x1 x5 x6 x19 h)) 1000000 [x10, x15] h)
  fun j vs h => unc1 vs fun x5 =>
  bndV (kSlS 1 true false [x0, x5]) fun x38 =>
  bndE (dClr h [(.ptr none)] [x38]) h fun _ h =>
  bndV (kSlS 1 false true [x0, x5]) fun x41 =>
  ret1 x41 h)
noncomputable def f266 (vs : List V) (h : HT) : Option J := unc2 vs fun x0 x1 =>
  bndC (f319 [x0, x1] h) fun x10 h =>
  (f266_1 x0 x1 x10 h)

/- (*concord/core.Core).leave -/
noncomputable def l213 : List (Nat × (List V → HT → Option J)) := [(266, f266)]
noncomputable def t213 : Fns := tab l213

noncomputable def f213 (vs : List V) (h : HT) : Option J := unc2 vs fun x0 x1 =>
  bndN (rBox x1) h fun x3 h =>
  bndV (rNilc x0) fun x6 =>
  bndV (rFa 4 x6) fun x7 =>
  bndV (rLd h x7) fun x8 =>
  bndV (kMkF 275 [x3]) fun x9 =>
  bndC (f266 [x8, x9] h) fun x10 h =>
  bndV (rNilc x0) fun x11 =>
  bndV (rFa 4 x11) fun x12 =>
  bndE (rSt h 1 x12 x10) h fun _ h =>
  ret1 (.tuple []) h

/- slices.Insert[[]*concord/core.lead,*concord/core.lead] -/
noncomputable def l273 : List (Nat × (List V → HT → Option J)) := []
noncomputable def t273 : Fns := tab l273
noncomputable def f273_0 (x0 : V) (x1 : V) (x2 : V) (x14 : V) (x19 : V) (x22 : V) (h : HT) : Option J := tstv x22 (bndE (dApp h 1 8 [x0, x2]) h fun x25 h =>
  ret1 x25 h)
  (bndV (rAdd x19 x14) fun x28 =>
  bndV (kCapS [x0]) fun x30 =>
  bndV (rGtr x28 x30) fun x31 =>
  tstv x31 (bndV (kSlS 1 false true [x0, x1]) fun x34 =>
  bndV (rAdd x19 x14) fun x37 =>
  bndV (rSub x37 x1) fun x39 =>
  none)
  (bndV (rAdd x19 x14) fun x59 =>
  bndV (kSlS 1 false true [x0, x59]) fun x60 =>
  bndV (rAdd x1 x14) fun x65 =>
  bndV (kSlS 1 true false [x60, x65]) fun x66 =>
  none))
noncomputable def f273 (vs : List V) (h : HT) : Option J := unc3 vs fun x0 x1 x2 =>
  bndV (kSlS 1 true false [x0, x1]) fun x12 =>
  bndV (rLenS x2) fun x14 =>
  bndV (rEql x14 (.int .i64 (.ofNat (nat_lit 0)))) fun x16 =>
  tstv x16 (ret1 x0 h)
  (bndV (rLenS x0) fun x19 =>
  bndV (rEql x1 x19) fun x22 =>
  (f273_0 x0 x1 x2 x14 x19 x22 h))

/- (*concord/core.Core).take -/
noncomputable def l206 : List (Nat × (List V → HT → Option J)) := [(213, f213), (273, f273)]
noncomputable def t206 : Fns := tab l206
noncomputable def f206_0 (rc : List V → HT → Option J) (x1 : V) (x4 : V) (x17 : V) (x22 : V) (x23 : V) (h : HT) : Option J := bndC (gsel x17 true (retV (rIaS 1 x22 x23) h) h) fun x24 h =>
  bndC (gsel x17 true (retV (rLd h x24) h) h) fun x25 h =>
  bndC (gsel x17 true (retV (rNilc x25) h) h) fun x26 h =>
  bndC (gsel x17 true (retV (rFa 0 x26) h) h) fun x27 h =>
  bndC (gsel x17 true (retV (rLdN h 2 x27) h) h) fun x28 h =>
  bndC (gsel x17 true (retV (kMov [x1]) h) h) fun x29 h =>
  bndC (gsel x17 true (retV (rNilc x29) h) h) fun x30 h =>
  bndC (gsel x17 true (retV (rFa 0 x30) h) h) fun x31 h =>
  bndC (gsel x17 true (retV (rLdN h 2 x31) h) h) fun x32 h =>
  bndC (gsel x17 true (noF [x28, x32] h) h) fun x33 h =>
  bndV (rPick x17 x33 (.bool false)) fun x34 =>
  tstv x34 (bndV (rAdd x4 (.int .i64 (.ofNat (nat_lit 1)))) fun x36 =>
  rc [x36] h)
  (some ⟨0, [x4], h⟩)
noncomputable def f206_1 (x0 : V) (x1 : V) (h : HT) : Option J := bndJ (loopF (fun rc vs h => unc1 vs fun x4 =>
  bndV (rNilc x0) fun x13 =>
  bndV (rFa 4 x13) fun x14 =>
  bndV (rLd h x14) fun x15 =>
  bndV (rLenS x15) fun x16 =>
  bndV (rLss x4 x16) fun x17 =>
  bndC (gsel x17 true (retV (kMov [x0]) h) h) fun x19 h =>
  bndC (gsel x17 true (retV (rNilc x19) h) h) fun x20 h =>
  bndC (gsel x17 true (retV (rFa 4 x20) h) h) fun x21 h =>
  bndC (gsel x17 true (retV (rLd h x21) h) h) fun x22 h =>
  bndC (gsel x17 true (retV (kMov [x4]) h) h) fun x23 h =>
  (f206_0 rc x1 x4 x17 x22 x23 h)) 1000000 [(.int .i64 (.ofNat (nat_lit 0)))] h)
  fun j vs h => unc1 vs fun x4 =>
  bndV (rNilc x0) fun x39 =>
  bndV (rFa 4 x39) fun x40 =>
  bndV (rLd h x40) fun x41 =>
  bndN (rBsl 1 1 [(.ptr none)] [(0, 1)] [x1]) h fun x44 h =>
  bndC (f273 [x41, x4, x44] h) fun x45 h =>
  bndV (rNilc x0) fun x46 =>
  bndV (rFa 4 x46) fun x47 =>
  bndE (rSt h 1 x47 x45) h fun _ h =>
  ret1 (.tuple []) h
noncomputable def f206 (vs : List V) (h : HT) : Option J := unc2 vs fun x0 x1 =>
  bndV (rNilc x1) fun x7 =>
  bndV (rFa 0 x7) fun x8 =>
  bndV (rLdN h 2 x8) fun x9 =>
  bndC (f213 [x0, x9] h) fun x10 h =>
  (f206_1 x0 x1 h)

/- (*concord/core.Core).send -/
noncomputable def l211 : List (Nat × (List V → HT → Option J)) := []
noncomputable def t211 : Fns := tab l211
noncomputable def f211_0 (x0 : V) (x1 : V) (x5 : V) (x8 : V) (h : HT) : Option J := bndV (rLd h x8) fun x9 =>
  bndV (rFa 1 x5) fun x11 =>
  bndE (rSt h 1 x11 x9) h fun _ h =>
  bndV (rFa 2 x5) fun x12 =>
  bndE (rSt h 1 x12 x1) h fun _ h =>
  bndV (rNilc x0) fun x15 =>
  bndV (rFa 7 x15) fun x16 =>
  bndV (rLd h x16) fun x17 =>
  bndV (rLdN h 51 x5) fun x18 =>
  bndN (rBsl 51 1 [(.int .i64 (.ofNat (nat_lit 0))), (.int .i64 (.ofNat (nat_lit 0))), (.int .i64 (.ofNat (nat_lit 0))), (.int .i64 (.ofNat (nat_lit 0))), (.int .i64 (.ofNat (nat_lit 0))), (.int .i64 (.ofNat (nat_lit 0))), (.int .i64 (.ofNat (nat_lit 0))), (.int .i64 (.ofNat (nat_lit 0))), (.int .i64 (.ofNat (nat_lit 0))), (.int .i64 (.ofNat (nat_lit 0))), (.str (sb [])), (.str (sb [])), (.str (sb [])), (.str (sb [])), (.int .i64 (.ofNat (nat_lit 0))), (.int .i64 (.ofNat (nat_lit 0))), (.int .i64 (.ofNat (nat_lit 0))), (.int .i64 (.ofNat (nat_lit 0))), (.int .i64 (.ofNat (nat_lit 0))), (.int .i64 (.ofNat (nat_lit 0))), (.int .i64 (.ofNat (nat_lit 0))), (.int .i64 (.ofNat (nat_lit 0))), (.int .i64 (.ofNat (nat_lit 0))), (.int .i64 (.ofNat (nat_lit 0))), (.int .i64 (.ofNat (nat_lit 0))), (.int .i64 (.ofNat (nat_lit 0))), (.int .i64 (.ofNat (nat_lit 0))), (.int .i64 (.ofNat (nat_lit 0))), (.int .i64 (.ofNat (nat_lit 0))), (.int .i64 (.ofNat (nat_lit 0))), (.str (sb [])), (.str (sb [])), (.str (sb [])), (.str (sb [])), (.int .i64 (.ofNat (nat_lit 0))), (.int .i64 (.ofNat (nat_lit 0))), (.int .i64 (.ofNat (nat_lit 0))), (.int .i64 (.ofNat (nat_lit 0))), (.int .i64 (.ofNat (nat_lit 0))), (.int .i64 (.ofNat (nat_lit 0))), (.int .i64 (.ofNat (nat_lit 0))), (.int .i64 (.ofNat (nat_lit 0))), (.bool false), (.int .i64 (.ofNat (nat_lit 0))), (.int .i64 (.ofNat (nat_lit 0))), (.int .i64 (.ofNat (nat_lit 0))), (.int .i64 (.ofNat (nat_lit 0))), (.int .i64 (.ofNat (nat_lit 0))), (.int .i64 (.ofNat (nat_lit 0))), (.int .i64 (.ofNat (nat_lit 0))), (.str (sb []))] [(0, 51)] [x18]) h fun x19 h =>
  bndE (dApp h 51 480 [x17, x19]) h fun x20 h =>
  bndV (rNilc x0) fun x21 =>
  bndV (rFa 7 x21) fun x22 =>
  bndE (rSt h 1 x22 x20) h fun _ h =>
  ret1 (.tuple []) h
noncomputable def f211 (vs : List V) (h : HT) : Option J := unc3 vs fun x0 x1 x2 =>
  bndN (rBox x2) h fun x5 h =>
  bndV (rNilc x0) fun x7 =>
  bndV (rFa 1 x7) fun x8 =>
  (f211_0 x0 x1 x5 x8 h)

/- (*concord/core.Core).all -/
noncomputable def l207 : List (Nat × (List V → HT → Option J)) := [(211, f211)]
noncomputable def t207 : Fns := tab l207
noncomputable def f207_0 (rc : List V → HT → Option J) (x0 : V) (x4 : V) (x5 : V) (x11 : V) (x17 : V) (h : HT) : Option J := bndV (rLd h x17) fun x18 =>
  bndV (rNeq x11 x18) fun x19 =>
  bndC (gsel x19 true (retV (kMov [x11]) h) h) fun x21 h =>
  bndC (gsel x19 true (retV (rIaA 7 1 x5 x21) h) h) fun x22 h =>
  bndC (gsel x19 true (retV (rLd h x22) h) h) fun x23 h =>
  bndC (gsel x19 true (retV (rEql x23 (.int .i64 (.ofNat (nat_lit 0)))) h) h) fun x24 h =>
  bndV (rPick x19 x24 (.bool false)) fun x25 =>
  bndJ (tstv x25 (bndV (rLdN h 51 x4) fun x28 =>
  bndC (f211 [x0, x11, x28] h) fun x29 h =>
  some ⟨0, [], h⟩)
  (some ⟨0, [], h⟩))
  fun j vs h => bndV (rAdd x11 (.int .i64 (.ofNat (nat_lit 1)))) fun x30 =>
  rc [x30] h
noncomputable def f207_1 (x0 : V) (x1 : V) (x2 : V) (h : HT) : Option J := bndN (rBox x1) h fun x4 h =>
  bndN (rBox x2) h fun x5 h =>
  bndV (rNilc x0) fun x8 =>
  bndV (rFa 0 x8) fun x9 =>
  bndV (rLd h x9) fun x10 =>
  bndJ (loopF (fun rc vs h => unc1 vs fun x11 =>
  bndV (rLss x11 x10) fun x12 =>
  tstv x12 (bndV (rNilc x0) fun x16 =>
  bndV (rFa 1 x16) fun x17 =>
  (f207_0 rc x0 x4 x5 x11 x17 h))
  (some ⟨0, [], h⟩)) 1000000 [(.int .i64 (.ofNat (nat_lit 0)))] h)
  fun j vs h => ret1 (.tuple []) h
noncomputable def f207 (vs : List V) (h : HT) : Option J := unc3 vs fun x0 x1 x2 =>
  (f207_1 x0 x1 x2 h)
end Go.Cn
