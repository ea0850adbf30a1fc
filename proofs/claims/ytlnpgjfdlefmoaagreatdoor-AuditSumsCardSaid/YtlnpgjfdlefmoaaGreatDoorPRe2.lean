/- Each of these functions is what the code does (printed by a program of the prover). -/
import Derived.Test.YtlnpgjfdlefmoaaGreatDoorPRe1
namespace Go.Cn
open Go.Proofs
set_option maxRecDepth 100000
set_option linter.unusedVariables false
/- (*concord/core.Core).accept -/
def a278 : List Ann := [.no]
theorem e278 : f278 = evFun Tryz.prog 278 4 a278 t278 := by kernel_rfl
theorem o278 : FnOk Tryz.prog 278 f278 := .of hmO (show enters Tryz.prog 278 = true by kernel_rfl) e278 (.cons o101 (.cons o127 (.cons o128 (.nil))))

/- (*concord/core.Core).weigh -/
def a216 : List Ann := [.no, .no, .no]
theorem e216 : f216 = evFun Tryz.prog 216 3 a216 t216 := by kernel_rfl
theorem o216 : FnOk Tryz.prog 216 f216 := .of hmO (show enters Tryz.prog 216 = true by kernel_rfl) e216 (.cons o218 (.cons o277 (.cons o278 (.nil))))

/- concord/quorum.best -/
def a330 : List Ann := [.no, .loop [5, 10] [((.exit 0), [5])], .no, .no, .join [(.normal, [5])]]
theorem e330 : f330 = evFun Tryz.prog 330 2 a330 t330 := by kernel_rfl
theorem o330 : FnOk Tryz.prog 330 f330 := .of hmO (show enters Tryz.prog 330 = true by kernel_rfl) e330 (.cons o209 (.nil))

/- concord/quorum.Prepared -/
def a279 : List Ann := [.no, .no, .loop [9, 10, 11, 25] [((.exit 0), [9, 10, 11]), (.ret, [6])], .no, .no, .no, .join [(.normal, [9, 10, 11])], .join [(.normal, [9, 10])], .join [(.normal, [10])], .no, .no, .no]
theorem e279 : f279 = evFun Tryz.prog 279 3 a279 t279 := by kernel_rfl
theorem o279 : FnOk Tryz.prog 279 f279 := .of hmO (show enters Tryz.prog 279 = true by kernel_rfl) e279 (.cons o217 (.cons o330 (.nil)))

/- (*concord/core.Core).again -/
def a281 : List Ann := [.no]
theorem e281 : f281 = evFun Tryz.prog 281 4 a281 t281 := by kernel_rfl
theorem o281 : FnOk Tryz.prog 281 f281 := .of hmO (show enters Tryz.prog 281 = true by kernel_rfl) e281 (.cons o101 (.cons o126 (.cons o127 (.cons o128 (.cons o276 (.nil))))))

/- (*concord/core.Core).prepared -/
def a219 : List Ann := [.no, .no, .no, .no, .no]
theorem e219 : f219 = evFun Tryz.prog 219 2 a219 t219 := by kernel_rfl
theorem o219 : FnOk Tryz.prog 219 f219 := .of hmO (show enters Tryz.prog 219 = true by kernel_rfl) e219 (.cons o279 (.cons o281 (.nil)))

/- (*concord/core.Core).answered -/
def a143 : List Ann := [.no, .no, .no, .no, .no, .no]
theorem e143 : f143 = evFun Tryz.prog 143 2 a143 t143 := by kernel_rfl
theorem o143 : FnOk Tryz.prog 143 f143 := .of hmO (show enters Tryz.prog 143 = true by kernel_rfl) e143 (.cons o212 (.cons o216 (.cons o217 (.cons o218 (.cons o219 (.nil))))))

/- (*concord/core.Core).Take -/
def a57 : List Ann := [.no, .no, .no, .no, .no, .no]
theorem e57 : f57 = evFun Tryz.prog 57 2 a57 t57 := by kernel_rfl
theorem o57 : FnOk Tryz.prog 57 f57 := .of hmO (show enters Tryz.prog 57 = true by kernel_rfl) e57 (.cons o54 (.cons o138 (.cons o139 (.cons o140 (.cons o141 (.cons o143 (.nil)))))))

/- (*concord/node.Node).Take -/
def a16 : List Ann := [.no, .no, .join [(.normal, [])], .join [(.normal, [])], .join [(.normal, [])], .join [(.normal, [])]]
theorem e16 : f16 = evFun Tryz.prog 16 2 a16 t16 := by kernel_rfl
theorem o16 : FnOk Tryz.prog 16 f16 := .of hmO (show enters Tryz.prog 16 = true by kernel_rfl) e16 (.cons o44 (.cons o45 (.cons o54 (.cons o55 (.cons o57 (.nil))))))

/- (*concord/node.Node).Out -/
def a17 : List Ann := []
theorem e17 : f17 = evFun Tryz.prog 17 1 a17 t17 := by kernel_rfl
theorem o17 : FnOk Tryz.prog 17 f17 := .of hmO (show enters Tryz.prog 17 = true by kernel_rfl) e17 (.nil)

/- (*concord/node.Node).Done -/
def a23 : List Ann := []
theorem e23 : f23 = evFun Tryz.prog 23 1 a23 t23 := by kernel_rfl
theorem o23 : FnOk Tryz.prog 23 f23 := .of hmO (show enters Tryz.prog 23 = true by kernel_rfl) e23 (.nil)

/- slices.Equal[[]concord/api.Pair,concord/api.Pair] -/
def a119 : List Ann := [.no, .no, .loop [13] [((.exit 0), []), (.ret, [4])], .no, .no, .no]
theorem e119 : f119 = evFun Tryz.prog 119 2 a119 t119 := by kernel_rfl
theorem o119 : FnOk Tryz.prog 119 f119 := .of hmO (show enters Tryz.prog 119 = true by kernel_rfl) e119 (.nil)

/- concord/state.same -/
def a118 : List Ann := []
theorem e118 : f118 = evFun Tryz.prog 118 2 a118 t118 := by kernel_rfl
theorem o118 : FnOk Tryz.prog 118 f118 := .of hmO (show enters Tryz.prog 118 = true by kernel_rfl) e118 (.cons o119 (.nil))

/- concord/state.Same -/
def a46 : List Ann := [.no, .loop [9] [((.exit 0), []), (.ret, [4])], .no, .no, .no]
theorem e46 : f46 = evFun Tryz.prog 46 2 a46 t46 := by kernel_rfl
theorem o46 : FnOk Tryz.prog 46 f46 := .of hmO (show enters Tryz.prog 46 = true by kernel_rfl) e46 (.cons o118 (.cons o119 (.nil)))

/- concord/state.Play -/
def a120 : List Ann := [.no, .loop [6, 14] [((.exit 0), [6])], .no, .no]
theorem e120 : f120 = evFun Tryz.prog 120 2 a120 t120 := by kernel_rfl
theorem o120 : FnOk Tryz.prog 120 f120 := .of hmO (show enters Tryz.prog 120 = true by kernel_rfl) e120 (.cons o203 (.nil))

/- (*concord/node.Node).State -/
def a47 : List Ann := []
theorem e47 : f47 = evFun Tryz.prog 47 1 a47 t47 := by kernel_rfl
theorem o47 : FnOk Tryz.prog 47 f47 := .of hmO (show enters Tryz.prog 47 = true by kernel_rfl) e47 (.cons o120 (.nil))

/- concord/concordlaw23.NodeRuns -/
def a10 : List Ann := [.no, .loop [1, 2, 3] [((.exit 0), [1, 2]), (.ret, [0])], .no, .no, .no, .no, .no, .loop [8, 9] [((.exit 2), [8])], .no, .no, .no, .loop [8, 10] [((.exit 4), [8])], .no, .no, .no, .loop [13] [((.exit 6), [])], .no, .no]
theorem e10 : f10 = evFun Tryz.prog 10 0 a10 t10 := by kernel_rfl
theorem o10 : FnOk Tryz.prog 10 f10 := .of hmO (show enters Tryz.prog 10 = true by kernel_rfl) e10 (.cons o8 (.cons o9 (.cons o12 (.cons o13 (.cons o16 (.cons o17 (.cons o23 (.cons o46 (.cons o47 (.nil))))))))))

/- concord/client.New -/
def a59 : List Ann := [.no]
theorem e59 : f59 = evFun Tryz.prog 59 1 a59 t59 := by kernel_rfl
theorem o59 : FnOk Tryz.prog 59 f59 := .of hmO (show enters Tryz.prog 59 = true by kernel_rfl) e59 (.nil)

/- concord/cluster.known -/
def a144 : List Ann := []
theorem e144 : f144 = evFun Tryz.prog 144 1 a144 t144 := by kernel_rfl
theorem o144 : FnOk Tryz.prog 144 f144 := .of hmO (show enters Tryz.prog 144 = true by kernel_rfl) e144 (.nil)

/- (*concord/client.Client).Tell -/
def a145 : List Ann := [.no]
theorem e145 : f145 = evFun Tryz.prog 145 2 a145 t145 := by kernel_rfl
theorem o145 : FnOk Tryz.prog 145 f145 := .of hmO (show enters Tryz.prog 145 = true by kernel_rfl) e145 (.nil)

/- (*concord/cluster.Cluster).out -/
def a60 : List Ann := [.no, .loop [23] [((.exit 0), [])], .no, .no, .join [(.normal, [])], .no, .loop [55] [((.exit 2), [])], .no, .no, .join [(.normal, [])]]
theorem e60 : f60 = evFun Tryz.prog 60 2 a60 t60 := by kernel_rfl
theorem o60 : FnOk Tryz.prog 60 f60 := .of hmO (show enters Tryz.prog 60 = true by kernel_rfl) e60 (.cons o17 (.cons o70 (.cons o144 (.cons o145 (.nil)))))

/- concord/cluster.New -/
def a18 : List Ann := [.no, .loop [20] [((.exit 0), []), (.ret, [2, 3])], .no, .no, .no, .no, .loop [10] [((.exit 2), [])], .no, .no, .no, .loop [82] [((.exit 4), [])], .no, .no]
theorem e18 : f18 = evFun Tryz.prog 18 1 a18 t18 := by kernel_rfl
theorem o18 : FnOk Tryz.prog 18 f18 := .of hmO (show enters Tryz.prog 18 = true by kernel_rfl) e18 (.cons o8 (.cons o9 (.cons o59 (.cons o60 (.nil)))))

/- (*concord/cluster.Cluster).Node -/
def a22 : List Ann := [.no]
theorem e22 : f22 = evFun Tryz.prog 22 2 a22 t22 := by kernel_rfl
theorem o22 : FnOk Tryz.prog 22 f22 := .of hmO (show enters Tryz.prog 22 = true by kernel_rfl) e22 (.nil)

/- (*concord/client.Client).Begin -/
def a146 : List Ann := [.no]
theorem e146 : f146 = evFun Tryz.prog 146 3 a146 t146 := by kernel_rfl
theorem o146 : FnOk Tryz.prog 146 f146 := .of hmO (show enters Tryz.prog 146 = true by kernel_rfl) e146 (.cons o48 (.nil))

/- (*concord/cluster.Cluster).comes -/
def a147 : List Ann := [.no]
theorem e147 : f147 = evFun Tryz.prog 147 3 a147 t147 := by kernel_rfl
theorem o147 : FnOk Tryz.prog 147 f147 := .of hmO (show enters Tryz.prog 147 = true by kernel_rfl) e147 (.cons o12 (.cons o22 (.cons o60 (.nil))))

/- (*concord/cluster.Cluster).call -/
def a61 : List Ann := [.no, .no]
theorem e61 : f61 = evFun Tryz.prog 61 2 a61 t61 := by kernel_rfl
theorem o61 : FnOk Tryz.prog 61 f61 := .of hmO (show enters Tryz.prog 61 = true by kernel_rfl) e61 (.cons o144 (.cons o146 (.cons o147 (.nil))))

/- (*concord/cluster.Cluster).letter -/
def a62 : List Ann := [.no, .join [(.normal, [])], .no]
theorem e62 : f62 = evFun Tryz.prog 62 2 a62 t62 := by kernel_rfl
theorem o62 : FnOk Tryz.prog 62 f62 := .of hmO (show enters Tryz.prog 62 = true by kernel_rfl) e62 (.cons o16 (.cons o22 (.cons o60 (.cons o148 (.nil)))))

/- (*concord/client.Client).Tick -/
def a149 : List Ann := [.no, .no]
theorem e149 : f149 = evFun Tryz.prog 149 2 a149 t149 := by kernel_rfl
theorem o149 : FnOk Tryz.prog 149 f149 := .of hmO (show enters Tryz.prog 149 = true by kernel_rfl) e149 (.nil)

/- (*concord/cluster.Cluster).time -/
def a63 : List Ann := [.no, .no]
theorem e63 : f63 = evFun Tryz.prog 63 2 a63 t63 := by kernel_rfl
theorem o63 : FnOk Tryz.prog 63 f63 := .of hmO (show enters Tryz.prog 63 = true by kernel_rfl) e63 (.cons o144 (.cons o147 (.cons o149 (.nil))))

/- (*concord/cluster.Cluster).start -/
def a64 : List Ann := [.no, .no]
theorem e64 : f64 = evFun Tryz.prog 64 2 a64 t64 := by kernel_rfl
theorem o64 : FnOk Tryz.prog 64 f64 := .of hmO (show enters Tryz.prog 64 = true by kernel_rfl) e64 (.cons o9 (.cons o60 (.nil)))

/- (*concord/core.Core).wished -/
def a215 : List Ann := [.no, .loop [12] [((.exit 0), []), (.ret, [4])], .no, .no, .no]
theorem e215 : f215 = evFun Tryz.prog 215 2 a215 t215 := by kernel_rfl
theorem o215 : FnOk Tryz.prog 215 f215 := .of hmO (show enters Tryz.prog 215 = true by kernel_rfl) e215 (.nil)

/- (*concord/core.Core).open -/
def a222 : List Ann := [.no]
theorem e222 : f222 = evFun Tryz.prog 222 2 a222 t222 := by kernel_rfl
theorem o222 : FnOk Tryz.prog 222 f222 := .of hmO (show enters Tryz.prog 222 = true by kernel_rfl) e222 (.cons o133 (.cons o138 (.cons o139 (.cons o205 (.nil)))))

/- slices.Insert[[]*concord/core.wish,*concord/core.wish] -/
def a274 : List Ann := [.no, .no, .no, .no]
theorem e274 : f274 = evFun Tryz.prog 274 3 a274 t274 := by kernel_rfl
theorem o274 : FnOk Tryz.prog 274 f274 := .of hmO (show enters Tryz.prog 274 = true by kernel_rfl) e274 (.nil)

/- (*concord/core.Core).Want -/
def a210 : List Ann := [.no, .no, .loop [5] [((.exit 0), [5])], .no, .no]
theorem e210 : f210 = evFun Tryz.prog 210 2 a210 t210 := by kernel_rfl
theorem o210 : FnOk Tryz.prog 210 f210 := .of hmO (show enters Tryz.prog 210 = true by kernel_rfl) e210 (.cons o215 (.cons o222 (.cons o274 (.nil))))

/- slices.Clone[[]*concord/core.lead,*concord/core.lead] -/
def a220 : List Ann := [.no]
theorem e220 : f220 = evFun Tryz.prog 220 1 a220 t220 := by kernel_rfl
theorem o220 : FnOk Tryz.prog 220 f220 := .of hmO (show enters Tryz.prog 220 = true by kernel_rfl) e220 (.nil)

/- slices.Clone[[]*concord/core.wish,*concord/core.wish] -/
def a221 : List Ann := [.no]
theorem e221 : f221 = evFun Tryz.prog 221 1 a221 t221 := by kernel_rfl
theorem o221 : FnOk Tryz.prog 221 f221 := .of hmO (show enters Tryz.prog 221 = true by kernel_rfl) e221 (.nil)

/- (*concord/core.Core).Tick$1 -/
def a224 : List Ann := []
theorem e224 : f224 = evFun Tryz.prog 224 2 a224 t224 := by kernel_rfl
theorem o224 : FnOk Tryz.prog 224 f224 := .of hmO (show enters Tryz.prog 224 = true by kernel_rfl) e224 (.nil)

/- slices.IndexFunc[[]*concord/core.wish,*concord/core.wish] -/
def a282 : List Ann := [.no, .loop [8] [((.exit 0), []), (.ret, [4])], .no, .no, .no]
theorem e282 : f282 = evFun Tryz.prog 282 2 a282 t282 := by kernel_rfl
theorem o282 : FnOk Tryz.prog 282 f282 := .of hmO (show enters Tryz.prog 282 = true by kernel_rfl) e282 (.cons o224 (.nil))

/- slices.DeleteFunc[[]*concord/core.wish,*concord/core.wish] -/
def a223 : List Ann := [.no, .no, .loop [5, 6] [((.exit 0), [5])], .no, .no, .join [(.normal, [5])]]
theorem e223 : f223 = evFun Tryz.prog 223 2 a223 t223 := by kernel_rfl
theorem o223 : FnOk Tryz.prog 223 f223 := .of hmO (show enters Tryz.prog 223 = true by kernel_rfl) e223 (.cons o282 (.nil))

/- concord/inst.Next -/
def a283 : List Ann := []
theorem e283 : f283 = evFun Tryz.prog 283 2 a283 t283 := by kernel_rfl
theorem o283 : FnOk Tryz.prog 283 f283 := .of hmO (show enters Tryz.prog 283 = true by kernel_rfl) e283 (.nil)

/- (*concord/core.Core).Recover -/
def a225 : List Ann := [.no, .join [(.normal, [])], .no]
theorem e225 : f225 = evFun Tryz.prog 225 2 a225 t225 := by kernel_rfl
theorem o225 : FnOk Tryz.prog 225 f225 := .of hmO (show enters Tryz.prog 225 = true by kernel_rfl) e225 (.cons o127 (.cons o128 (.cons o134 (.cons o205 (.cons o209 (.cons o215 (.cons o222 (.cons o283 (.nil)))))))))

/- (*concord/core.Core).Tick -/
def a150 : List Ann := [.no, .loop [17] [((.exit 0), [])], .no, .join [(.normal, [])], .no, .no, .loop [61] [((.exit 2), [])], .no, .no, .join [(.normal, [])], .no, .loop [93] [((.exit 4), [])], .no, .join [(.normal, [])], .no, .no, .join [(.normal, [])]]
theorem e150 : f150 = evFun Tryz.prog 150 1 a150 t150 := by kernel_rfl
theorem o150 : FnOk Tryz.prog 150 f150 := .of hmO (show enters Tryz.prog 150 = true by kernel_rfl) e150 (.cons o204 (.cons o205 (.cons o210 (.cons o212 (.cons o220 (.cons o221 (.cons o222 (.cons o223 (.cons o225 (.nil))))))))))

/- (*concord/node.Node).Tick -/
def a65 : List Ann := [.no, .no, .loop [2] [((.exit 0), [])], .no, .no, .join [(.normal, [])]]
theorem e65 : f65 = evFun Tryz.prog 65 1 a65 t65 := by kernel_rfl
theorem o65 : FnOk Tryz.prog 65 f65 := .of hmO (show enters Tryz.prog 65 = true by kernel_rfl) e65 (.cons o45 (.cons o150 (.nil)))

/- (*concord/disk.Disk).Arm -/
def a66 : List Ann := []
theorem e66 : f66 = evFun Tryz.prog 66 2 a66 t66 := by kernel_rfl
theorem o66 : FnOk Tryz.prog 66 f66 := .of hmO (show enters Tryz.prog 66 = true by kernel_rfl) e66 (.nil)

/- (*concord/disk.Disk).Crash -/
def a67 : List Ann := [.no, .loop [21] [((.exit 0), [])], .no, .no, .join [(.normal, [6])]]
theorem e67 : f67 = evFun Tryz.prog 67 2 a67 t67 := by kernel_rfl
theorem o67 : FnOk Tryz.prog 67 f67 := .of hmO (show enters Tryz.prog 67 = true by kernel_rfl) e67 (.cons o151 (.nil))

/- (*concord/cluster.Cluster).Do -/
def a21 : List Ann := [.no, .no, .join [(.normal, [13])], .join [(.normal, [13])], .no, .no, .no, .no, .no, .no, .no, .no]
theorem e21 : f21 = evFun Tryz.prog 21 2 a21 t21 := by kernel_rfl
theorem o21 : FnOk Tryz.prog 21 f21 := .of hmO (show enters Tryz.prog 21 = true by kernel_rfl) e21 (.cons o22 (.cons o60 (.cons o61 (.cons o62 (.cons o63 (.cons o64 (.cons o65 (.cons o66 (.cons o67 (.nil))))))))))

/- slices.Clone[[]concord/api.Event,concord/api.Event] -/
def a69 : List Ann := [.no]
theorem e69 : f69 = evFun Tryz.prog 69 1 a69 t69 := by kernel_rfl
theorem o69 : FnOk Tryz.prog 69 f69 := .of hmO (show enters Tryz.prog 69 = true by kernel_rfl) e69 (.nil)

/- (*concord/cluster.Cluster).History -/
def a25 : List Ann := [.no, .loop [12] [((.exit 0), [])], .no, .no]
theorem e25 : f25 = evFun Tryz.prog 25 1 a25 t25 := by kernel_rfl
theorem o25 : FnOk Tryz.prog 25 f25 := .of hmO (show enters Tryz.prog 25 = true by kernel_rfl) e25 (.cons o69 (.cons o70 (.nil)))

/- (*concord/client.Client).Waits -/
def a152 : List Ann := []
theorem e152 : f152 = evFun Tryz.prog 152 1 a152 t152 := by kernel_rfl
theorem o152 : FnOk Tryz.prog 152 f152 := .of hmO (show enters Tryz.prog 152 = true by kernel_rfl) e152 (.nil)

/- (*concord/cluster.Cluster).Waits -/
def a71 : List Ann := []
theorem e71 : f71 = evFun Tryz.prog 71 2 a71 t71 := by kernel_rfl
theorem o71 : FnOk Tryz.prog 71 f71 := .of hmO (show enters Tryz.prog 71 = true by kernel_rfl) e71 (.cons o144 (.cons o152 (.nil)))

/- concord/concordlaw25.ClusterRuns -/
def a26 : List Ann := [.no, .no, .loop [6] [((.exit 0), [])], .no, .no]
theorem e26 : f26 = evFun Tryz.prog 26 0 a26 t26 := by kernel_rfl
theorem o26 : FnOk Tryz.prog 26 f26 := .of hmO (show enters Tryz.prog 26 = true by kernel_rfl) e26 (.cons o18 (.cons o21 (.cons o25 (.cons o71 (.nil)))))

/- concord/audit.Fine -/
def a30 : List Ann := []
theorem e30 : f30 = evFun Tryz.prog 30 1 a30 t30 := by kernel_rfl
theorem o30 : FnOk Tryz.prog 30 f30 := .of hmO (show enters Tryz.prog 30 = true by kernel_rfl) e30 (.nil)

/- (*concord/cluster.Cluster).Nodes -/
def a20 : List Ann := []
theorem e20 : f20 = evFun Tryz.prog 20 1 a20 t20 := by kernel_rfl
theorem o20 : FnOk Tryz.prog 20 f20 := .of hmO (show enters Tryz.prog 20 = true by kernel_rfl) e20 (.nil)

/- concord/audit.up -/
def a154 : List Ann := [.no, .loop [3, 8] [((.exit 0), [3])], .no, .no, .join [(.normal, [3])]]
theorem e154 : f154 = evFun Tryz.prog 154 1 a154 t154 := by kernel_rfl
theorem o154 : FnOk Tryz.prog 154 f154 := .of hmO (show enters Tryz.prog 154 = true by kernel_rfl) e154 (.cons o20 (.cons o22 (.nil)))

/- (*concord/core.Core).Top -/
def a52 : List Ann := []
theorem e52 : f52 = evFun Tryz.prog 52 1 a52 t52 := by kernel_rfl
theorem o52 : FnOk Tryz.prog 52 f52 := .of hmO (show enters Tryz.prog 52 = true by kernel_rfl) e52 (.cons o125 (.nil))

/- (*concord/node.Node).Top -/
def a14 : List Ann := []
theorem e14 : f14 = evFun Tryz.prog 14 1 a14 t14 := by kernel_rfl
theorem o14 : FnOk Tryz.prog 14 f14 := .of hmO (show enters Tryz.prog 14 = true by kernel_rfl) e14 (.cons o52 (.nil))

/- (*concord/node.Node).Cut -/
def a226 : List Ann := []
theorem e226 : f226 = evFun Tryz.prog 226 1 a226 t226 := by kernel_rfl
theorem o226 : FnOk Tryz.prog 226 f226 := .of hmO (show enters Tryz.prog 226 = true by kernel_rfl) e226 (.cons o200 (.nil))

/- (*concord/node.Node).Cell -/
def a227 : List Ann := []
theorem e227 : f227 = evFun Tryz.prog 227 2 a227 t227 := by kernel_rfl
theorem o227 : FnOk Tryz.prog 227 f227 := .of hmO (show enters Tryz.prog 227 = true by kernel_rfl) e227 (.cons o124 (.nil))

/- concord/audit.committed -/
def a155 : List Ann := [.no, .loop [7, 24] [((.exit 0), [7])], .no, .no, .no, .loop [7, 31] [((.exit 2), [7])], .no, .no, .no, .loop [7, 14] [((.exit 4), [7])], .no, .join [(.normal, [7])], .no, .join [(.normal, [7])], .join [(.normal, [])]]
theorem e155 : f155 = evFun Tryz.prog 155 2 a155 t155 := by kernel_rfl
theorem o155 : FnOk Tryz.prog 155 f155 := .of hmO (show enters Tryz.prog 155 = true by kernel_rfl) e155 (.cons o14 (.cons o226 (.cons o227 (.nil))))

/- concord/audit.Of -/
def a74 : List Ann := [.no, .loop [36] [((.exit 0), [])], .no, .no, .no, .loop [45] [((.exit 2), [])], .no, .no, .join [(.normal, [])], .no, .loop [84] [((.exit 4), [])], .no, .no, .no, .loop [93] [((.exit 6), [])], .no, .no, .join [(.normal, [])]]
theorem e74 : f74 = evFun Tryz.prog 74 1 a74 t74 := by kernel_rfl
theorem o74 : FnOk Tryz.prog 74 f74 := .of hmO (show enters Tryz.prog 74 = true by kernel_rfl) e74 (.cons o20 (.cons o23 (.cons o46 (.cons o47 (.cons o154 (.cons o155 (.nil)))))))

/- concord/concordlaw28.AuditRuns -/
def a31 : List Ann := [.no, .no, .loop [4] [((.exit 0), [])], .no, .no]
theorem e31 : f31 = evFun Tryz.prog 31 0 a31 t31 := by kernel_rfl
theorem o31 : FnOk Tryz.prog 31 f31 := .of hmO (show enters Tryz.prog 31 = true by kernel_rfl) e31 (.cons o18 (.cons o21 (.cons o30 (.cons o74 (.nil)))))

/- (*concord/node.Node).Bad -/
def a153 : List Ann := []
theorem e153 : f153 = evFun Tryz.prog 153 1 a153 t153 := by kernel_rfl
theorem o153 : FnOk Tryz.prog 153 f153 := .of hmO (show enters Tryz.prog 153 = true by kernel_rfl) e153 (.nil)

/- concord/calm.Start -/
def a72 : List Ann := [.no, .loop [6] [((.exit 0), [])], .no, .no, .join [(.normal, [])]]
theorem e72 : f72 = evFun Tryz.prog 72 1 a72 t72 := by kernel_rfl
theorem o72 : FnOk Tryz.prog 72 f72 := .of hmO (show enters Tryz.prog 72 = true by kernel_rfl) e72 (.cons o20 (.cons o21 (.cons o22 (.cons o153 (.nil)))))

/- concord/calm.Round -/
def a73 : List Ann := [.no, .loop [6] [((.exit 0), [])], .no, .no, .no, .loop [14] [((.exit 2), [])], .no, .no, .no, .no, .loop [3] [((.exit 4), [])], .no, .no]
theorem e73 : f73 = evFun Tryz.prog 73 1 a73 t73 := by kernel_rfl
theorem o73 : FnOk Tryz.prog 73 f73 := .of hmO (show enters Tryz.prog 73 = true by kernel_rfl) e73 (.cons o20 (.cons o21 (.nil)))

/- concord/calm.Waiting -/
def a29 : List Ann := [.no, .loop [3, 4] [((.exit 0), [3])], .no, .no, .join [(.normal, [3])]]
theorem e29 : f29 = evFun Tryz.prog 29 1 a29 t29 := by kernel_rfl
theorem o29 : FnOk Tryz.prog 29 f29 := .of hmO (show enters Tryz.prog 29 = true by kernel_rfl) e29 (.cons o71 (.nil))

/- (*concord/cluster.Cluster).Run -/
def a27 : List Ann := [.no, .loop [5, 10] [((.exit 0), [5])], .no, .no, .join [(.normal, [5])]]
theorem e27 : f27 = evFun Tryz.prog 27 2 a27 t27 := by kernel_rfl
theorem o27 : FnOk Tryz.prog 27 f27 := .of hmO (show enters Tryz.prog 27 = true by kernel_rfl) e27 (.cons o21 (.nil))
end Go.Cn
