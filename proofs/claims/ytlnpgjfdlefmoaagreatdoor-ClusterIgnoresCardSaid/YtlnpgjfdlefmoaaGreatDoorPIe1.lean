/- Each of these functions is what the code does (printed by a program of the prover). -/
import Derived.Test.YtlnpgjfdlefmoaaGreatDoorPIe0
namespace Go.Cn
open Go.Proofs
set_option maxRecDepth 100000
set_option linter.unusedVariables false
/- (*concord/core.lead).ask -/
def a208 : List Ann := [.no, .join [(.normal, [])], .join [(.normal, [])]]
theorem e208 : f208 = evFun Tryz.prog 208 1 a208 t208 := by kernel_rfl
theorem o208 : FnOk Tryz.prog 208 f208 := .of hmO (show enters Tryz.prog 208 = true by kernel_rfl) e208 (.nil)

/- (*concord/core.Core).begin -/
def a128 : List Ann := []
theorem e128 : f128 = evFun Tryz.prog 128 2 a128 t128 := by kernel_rfl
theorem o128 : FnOk Tryz.prog 128 f128 := .of hmO (show enters Tryz.prog 128 = true by kernel_rfl) e128 (.cons o206 (.cons o207 (.cons o208 (.nil))))

/- (*concord/core.Core).Propose -/
def a50 : List Ann := [.no, .no]
theorem e50 : f50 = evFun Tryz.prog 50 2 a50 t50 := by kernel_rfl
theorem o50 : FnOk Tryz.prog 50 f50 := .of hmO (show enters Tryz.prog 50 = true by kernel_rfl) e50 (.cons o48 (.cons o101 (.cons o125 (.cons o126 (.cons o127 (.cons o128 (.nil)))))))

/- slices.Index[[]concord/api.Inst,concord/api.Inst] -/
def a129 : List Ann := [.no, .loop [8] [((.exit 0), []), (.ret, [4])], .no, .no, .no]
theorem e129 : f129 = evFun Tryz.prog 129 2 a129 t129 := by kernel_rfl
theorem o129 : FnOk Tryz.prog 129 f129 := .of hmO (show enters Tryz.prog 129 = true by kernel_rfl) e129 (.nil)

/- slices.Contains[[]concord/api.Inst,concord/api.Inst] -/
def a51 : List Ann := []
theorem e51 : f51 = evFun Tryz.prog 51 2 a51 t51 := by kernel_rfl
theorem o51 : FnOk Tryz.prog 51 f51 := .of hmO (show enters Tryz.prog 51 = true by kernel_rfl) e51 (.cons o129 (.nil))

/- (*concord/node.Node).Ask -/
def a12 : List Ann := [.no, .no, .no, .join [(.ret, [4]), (.normal, [])], .no, .join [(.normal, [])]]
theorem e12 : f12 = evFun Tryz.prog 12 2 a12 t12 := by kernel_rfl
theorem o12 : FnOk Tryz.prog 12 f12 := .of hmO (show enters Tryz.prog 12 = true by kernel_rfl) e12 (.cons o45 (.cons o48 (.cons o49 (.cons o50 (.cons o51 (.nil))))))

/- (*concord/cluster.Cluster).Node -/
def a22 : List Ann := [.no]
theorem e22 : f22 = evFun Tryz.prog 22 2 a22 t22 := by kernel_rfl
theorem o22 : FnOk Tryz.prog 22 f22 := .of hmO (show enters Tryz.prog 22 = true by kernel_rfl) e22 (.nil)

/- (*concord/cluster.Cluster).comes -/
def a147 : List Ann := [.no]
theorem e147 : f147 = evFun Tryz.prog 147 3 a147 t147 := by kernel_rfl
theorem o147 : FnOk Tryz.prog 147 f147 := .of hmO (show enters Tryz.prog 147 = true by kernel_rfl) e147 (.cons o12 (.cons o22 (.cons o60 (.nil))))

/- (*concord/cluster.Cluster).call -/
def a61 : List Ann := [.no, .no]
theorem e61 : f61 = evFun Tryz.prog 61 2 a61 t61 := by kernel_rfl
theorem o61 : FnOk Tryz.prog 61 f61 := .of hmO (show enters Tryz.prog 61 = true by kernel_rfl) e61 (.cons o144 (.cons o146 (.cons o147 (.nil))))

/- concord/letter.named -/
def a130 : List Ann := [.no, .join [(.normal, [5])], .no, .no, .join [(.normal, [12])], .join [(.normal, [12])], .no, .no, .no, .join [(.normal, [23])], .no, .no]
theorem e130 : f130 = evFun Tryz.prog 130 1 a130 t130 := by kernel_rfl
theorem o130 : FnOk Tryz.prog 130 f130 := .of hmO (show enters Tryz.prog 130 = true by kernel_rfl) e130 (.nil)

/- concord/letter.place -/
def a131 : List Ann := []
theorem e131 : f131 = evFun Tryz.prog 131 1 a131 t131 := by kernel_rfl
theorem o131 : FnOk Tryz.prog 131 f131 := .of hmO (show enters Tryz.prog 131 = true by kernel_rfl) e131 (.nil)

/- concord/letter.bare -/
def a132 : List Ann := [.join [(.normal, [])], .join [(.normal, [])], .join [(.normal, [])], .join [(.normal, [])], .join [(.normal, [])], .join [(.normal, [])], .join [(.normal, [])]]
theorem e132 : f132 = evFun Tryz.prog 132 2 a132 t132 := by kernel_rfl
theorem o132 : FnOk Tryz.prog 132 f132 := .of hmO (show enters Tryz.prog 132 = true by kernel_rfl) e132 (.nil)

/- concord/letter.Right -/
def a54 : List Ann := [.no, .no]
theorem e54 : f54 = evFun Tryz.prog 54 1 a54 t54 := by kernel_rfl
theorem o54 : FnOk Tryz.prog 54 f54 := .of hmO (show enters Tryz.prog 54 = true by kernel_rfl) e54 (.cons o48 (.cons o101 (.cons o130 (.cons o131 (.cons o132 (.cons o133 (.cons o134 (.cons o135 (.nil)))))))))

/- (*concord/core.Core).one -/
def a138 : List Ann := []
theorem e138 : f138 = evFun Tryz.prog 138 2 a138 t138 := by kernel_rfl
theorem o138 : FnOk Tryz.prog 138 f138 := .of hmO (show enters Tryz.prog 138 = true by kernel_rfl) e138 (.nil)

/- (*concord/core.Core).find -/
def a212 : List Ann := [.no, .loop [12] [((.exit 0), []), (.ret, [4])], .no, .no, .no]
theorem e212 : f212 = evFun Tryz.prog 212 2 a212 t212 := by kernel_rfl
theorem o212 : FnOk Tryz.prog 212 f212 := .of hmO (show enters Tryz.prog 212 = true by kernel_rfl) e212 (.nil)

/- concord/deps.Join -/
def a276 : List Ann := [.no, .no, .loop [18] [((.exit 0), [])], .no, .no, .no, .loop [30] [((.exit 2), [])], .no, .no]
theorem e276 : f276 = evFun Tryz.prog 276 1 a276 t276 := by kernel_rfl
theorem o276 : FnOk Tryz.prog 276 f276 := .of hmO (show enters Tryz.prog 276 = true by kernel_rfl) e276 (.nil)

/- (*concord/core.Core).pre -/
def a214 : List Ann := [.no, .no, .no]
theorem e214 : f214 = evFun Tryz.prog 214 4 a214 t214 := by kernel_rfl
theorem o214 : FnOk Tryz.prog 214 f214 := .of hmO (show enters Tryz.prog 214 = true by kernel_rfl) e214 (.cons o101 (.cons o126 (.cons o127 (.cons o211 (.cons o276 (.nil))))))

/- (*concord/core.Core).asked -/
def a140 : List Ann := [.no, .no, .join [(.normal, [])], .no, .no, .no, .no, .no, .join [(.ret, []), (.normal, [])], .no]
theorem e140 : f140 = evFun Tryz.prog 140 2 a140 t140 := by kernel_rfl
theorem o140 : FnOk Tryz.prog 140 f140 := .of hmO (show enters Tryz.prog 140 = true by kernel_rfl) e140 (.cons o205 (.cons o209 (.cons o212 (.cons o214 (.nil)))))

/- (*concord/core.Core).told -/
def a141 : List Ann := [.no]
theorem e141 : f141 = evFun Tryz.prog 141 2 a141 t141 := by kernel_rfl
theorem o141 : FnOk Tryz.prog 141 f141 := .of hmO (show enters Tryz.prog 141 = true by kernel_rfl) e141 (.cons o127 (.cons o205 (.cons o213 (.nil))))

/- (*concord/core.Core).commit -/
def a218 : List Ann := [.no]
theorem e218 : f218 = evFun Tryz.prog 218 4 a218 t218 := by kernel_rfl
theorem o218 : FnOk Tryz.prog 218 f218 := .of hmO (show enters Tryz.prog 218 = true by kernel_rfl) e218 (.cons o127 (.cons o205 (.cons o207 (.cons o213 (.nil)))))

/- concord/quorum.Fast -/
def a329 : List Ann := []
theorem e329 : f329 = evFun Tryz.prog 329 1 a329 t329 := by kernel_rfl
theorem o329 : FnOk Tryz.prog 329 f329 := .of hmO (show enters Tryz.prog 329 = true by kernel_rfl) e329 (.nil)

/- concord/quorum.Pre -/
def a277 : List Ann := [.no, .loop [12, 17] [((.exit 0), [12])], .no, .no, .join [(.normal, [12])], .no, .no]
theorem e277 : f277 = evFun Tryz.prog 277 5 a277 t277 := by kernel_rfl
theorem o277 : FnOk Tryz.prog 277 f277 := .of hmO (show enters Tryz.prog 277 = true by kernel_rfl) e277 (.cons o329 (.nil))

/- (*concord/core.Core).weigh -/
def a216 : List Ann := [.no, .no, .no]
theorem e216 : f216 = evFun Tryz.prog 216 3 a216 t216 := by kernel_rfl
theorem o216 : FnOk Tryz.prog 216 f216 := .of hmO (show enters Tryz.prog 216 = true by kernel_rfl) e216 (.cons o218 (.cons o277 (.nil)))

/- (*concord/core.Core).answered -/
def a143 : List Ann := [.no, .no, .no, .no, .no, .no]
theorem e143 : f143 = evFun Tryz.prog 143 2 a143 t143 := by kernel_rfl
theorem o143 : FnOk Tryz.prog 143 f143 := .of hmO (show enters Tryz.prog 143 = true by kernel_rfl) e143 (.cons o212 (.cons o216 (.nil)))

/- (*concord/core.Core).Take -/
def a57 : List Ann := [.no, .no, .no, .no, .no, .no]
theorem e57 : f57 = evFun Tryz.prog 57 2 a57 t57 := by kernel_rfl
theorem o57 : FnOk Tryz.prog 57 f57 := .of hmO (show enters Tryz.prog 57 = true by kernel_rfl) e57 (.cons o54 (.cons o138 (.cons o139 (.cons o140 (.cons o141 (.cons o143 (.nil)))))))

/- (*concord/node.Node).Take -/
def a16 : List Ann := [.no, .no, .join [(.normal, [])], .join [(.normal, [])], .join [(.normal, [])], .join [(.normal, [])]]
theorem e16 : f16 = evFun Tryz.prog 16 2 a16 t16 := by kernel_rfl
theorem o16 : FnOk Tryz.prog 16 f16 := .of hmO (show enters Tryz.prog 16 = true by kernel_rfl) e16 (.cons o45 (.cons o54 (.cons o57 (.nil))))

/- (*concord/cluster.Cluster).letter -/
def a62 : List Ann := [.no, .join [(.normal, [])], .no]
theorem e62 : f62 = evFun Tryz.prog 62 2 a62 t62 := by kernel_rfl
theorem o62 : FnOk Tryz.prog 62 f62 := .of hmO (show enters Tryz.prog 62 = true by kernel_rfl) e62 (.cons o16 (.cons o22 (.cons o60 (.cons o148 (.nil)))))

/- (*concord/cluster.Cluster).Do -/
def a21 : List Ann := [.no, .no, .join [(.normal, [13])], .join [(.normal, [13])], .no, .no, .no, .no, .no, .no, .no, .no]
theorem e21 : f21 = evFun Tryz.prog 21 2 a21 t21 := by kernel_rfl
theorem o21 : FnOk Tryz.prog 21 f21 := .of hmO (show enters Tryz.prog 21 = true by kernel_rfl) e21 (.cons o61 (.cons o62 (.nil)))

/- slices.Clone[[]concord/api.Event,concord/api.Event] -/
def a69 : List Ann := [.no]
theorem e69 : f69 = evFun Tryz.prog 69 1 a69 t69 := by kernel_rfl
theorem o69 : FnOk Tryz.prog 69 f69 := .of hmO (show enters Tryz.prog 69 = true by kernel_rfl) e69 (.nil)

/- (*concord/cluster.Cluster).History -/
def a25 : List Ann := [.no, .loop [12] [((.exit 0), [])], .no, .no]
theorem e25 : f25 = evFun Tryz.prog 25 1 a25 t25 := by kernel_rfl
theorem o25 : FnOk Tryz.prog 25 f25 := .of hmO (show enters Tryz.prog 25 = true by kernel_rfl) e25 (.cons o69 (.cons o70 (.nil)))

/- (*concord/client.Client).Waits -/
def a152 : List Ann := []
theorem e152 : f152 = evFun Tryz.prog 152 1 a152 t152 := by kernel_rfl
theorem o152 : FnOk Tryz.prog 152 f152 := .of hmO (show enters Tryz.prog 152 = true by kernel_rfl) e152 (.nil)

/- (*concord/cluster.Cluster).Waits -/
def a71 : List Ann := []
theorem e71 : f71 = evFun Tryz.prog 71 2 a71 t71 := by kernel_rfl
theorem o71 : FnOk Tryz.prog 71 f71 := .of hmO (show enters Tryz.prog 71 = true by kernel_rfl) e71 (.cons o144 (.cons o152 (.nil)))

/- concord/concordlaw25.ClusterRuns -/
def a26 : List Ann := [.no, .no, .loop [6] [((.exit 0), [])], .no, .no]
theorem e26 : f26 = evFun Tryz.prog 26 0 a26 t26 := by kernel_rfl
theorem o26 : FnOk Tryz.prog 26 f26 := .of hmO (show enters Tryz.prog 26 = true by kernel_rfl) e26 (.cons o18 (.cons o21 (.cons o25 (.cons o71 (.nil)))))
end Go.Cn
