/- CalmRuns, told as a plain function (printed by a program of the prover). -/
import Derived.Test.YtlnpgjfdlefmoaaGreatDoorPR2
import Derived.Test.YtlnpgjfdlefmoaaGreatDoorSettle
namespace Go.Cn
set_option maxRecDepth 100000
set_option linter.unusedVariables false
/- concord/concordlaw27.CalmRuns -/
noncomputable def l5 : List (Nat × (List V → HT → Option J)) := [(18, f18), (25, f25), (27, f27), (28, settleS), (29, f29)]
noncomputable def t5 : Fns := tab l5
noncomputable def f5_0 (x5 : V) (x12 : V) (h : HT) : Option J := tstv x12 (ret1 (.bool false) h)
  (bndV (rBld [(.int .i64 (.ofNat (nat_lit 0))), (.int .i64 (.ofNat (nat_lit 0))), (.int .i64 (.ofNat (nat_lit 0))), (.str (sb [])), (.str (sb [])), (.str (sb [])), (.str (sb []))] [(0, 1), (3, 1)] [(.int .i64 (.ofNat (nat_lit 2))), (.str (sb [97]))]) fun x14 =>
  bndV (rBld [(.int .i64 (.ofNat (nat_lit 0))), (.int .i64 (.ofNat (nat_lit 0))), (.int .i64 (.ofNat (nat_lit 0))), (.int .i64 (.ofNat (nat_lit 0))), (.int .i64 (.ofNat (nat_lit 0))), (.int .i64 (.ofNat (nat_lit 0))), (.int .i64 (.ofNat (nat_lit 0))), (.str (sb [])), (.str (sb [])), (.str (sb [])), (.str (sb [])), (.slice none 0 true 0)] [(0, 1), (3, 1), (4, 7)] [(.int .i64 (.ofNat (nat_lit 1))), (.int .i64 (.ofNat (nat_lit 1))), x14]) fun x15 =>
  bndV (rBld [(.int .i64 (.ofNat (nat_lit 0))), (.int .i64 (.ofNat (nat_lit 0))), (.int .i64 (.ofNat (nat_lit 0))), (.int .i64 (.ofNat (nat_lit 0))), (.int .i64 (.ofNat (nat_lit 0))), (.int .i64 (.ofNat (nat_lit 0))), (.int .i64 (.ofNat (nat_lit 0))), (.str (sb [])), (.str (sb [])), (.str (sb [])), (.str (sb [])), (.slice none 0 true 0)] [(0, 1)] [(.int .i64 (.ofNat (nat_lit 8)))]) fun x16 =>
  bndN (rBsl 12 2 [(.int .i64 (.ofNat (nat_lit 0))), (.int .i64 (.ofNat (nat_lit 0))), (.int .i64 (.ofNat (nat_lit 0))), (.int .i64 (.ofNat (nat_lit 0))), (.int .i64 (.ofNat (nat_lit 0))), (.int .i64 (.ofNat (nat_lit 0))), (.int .i64 (.ofNat (nat_lit 0))), (.str (sb [])), (.str (sb [])), (.str (sb [])), (.str (sb [])), (.slice none 0 true 0), (.int .i64 (.ofNat (nat_lit 0))), (.int .i64 (.ofNat (nat_lit 0))), (.int .i64 (.ofNat (nat_lit 0))), (.int .i64 (.ofNat (nat_lit 0))), (.int .i64 (.ofNat (nat_lit 0))), (.int .i64 (.ofNat (nat_lit 0))), (.int .i64 (.ofNat (nat_lit 0))), (.str (sb [])), (.str (sb [])), (.str (sb [])), (.str (sb [])), (.slice none 0 true 0)] [(0, 12), (12, 12)] [x15, x16]) h fun x17 h =>
  bndC (f27 [x5, x17] h) fun x18 h =>
  bndC (settleS [x5, (.int .i64 (.ofNat (nat_lit 60)))] h) fun x20 h =>
  bndC (f29 [x5] h) fun x22 h =>
  bndV (rEql x22 (.int .i64 (.ofNat (nat_lit 0)))) fun x23 =>
  bndC (gsel x23 true (retV (kMov [x5]) h) h) fun x25 h =>
  bndC (gsel x23 true (f25 [x25] h) h) fun x26 h =>
  bndC (gsel x23 true (retV (rLenS x26) h) h) fun x27 h =>
  bndC (gsel x23 true (retV (rEql x27 (.int .i64 (.ofNat (nat_lit 2)))) h) h) fun x28 h =>
  bndV (rPick x23 x28 (.bool false)) fun x29 =>
  ret1 x29 h)
noncomputable def f5 (vs : List V) (h : HT) : Option J := bndC (f18 [(.int .i64 (.ofNat (nat_lit 3)))] h) fun x4 h =>
  bndV (rExt 0 x4) fun x5 =>
  bndV (rExt 1 x4) fun x6 =>
  bndV (kEqN false [x5, (.ptr none)]) fun x8 =>
  bndC (gsel x8 false (retV (kMov [x6]) h) h) fun x10 h =>
  bndC (gsel x8 false (retV (rNeq x10 (.int .i64 (.ofNat (nat_lit 0)))) h) h) fun x11 h =>
  bndV (rPick x8 (.bool true) x11) fun x12 =>
  (f5_0 x5 x12 h)
end Go.Cn
