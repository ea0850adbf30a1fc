/- Each of these functions is what the code does (printed by a program of the prover). -/
import Derived.Test.YtlnpgjfdlefmoaaGreatDoorPRe0
namespace Go.Cn
open Go.Proofs
set_option maxRecDepth 100000
set_option linter.unusedVariables false
/- slices.stableCmpFunc[int] -/
def a379 : List Ann := [.no, .loop [7, 8] [((.exit 0), [7])], .no, .no, .no, .loop [6] [((.exit 2), [])], .no, .no, .no, .loop [7, 8] [((.exit 4), [7])], .no, .no, .join [(.normal, [])]]
theorem e379 : f379 = evFun Tryz.prog 379 3 a379 t379 := by kernel_rfl
theorem o379 : FnOk Tryz.prog 379 f379 := .of hmO (show enters Tryz.prog 379 = true by kernel_rfl) e379 (.cons o394 (.nil))

/- slices.SortStableFunc[[]int,int] -/
def a352 : List Ann := []
theorem e352 : f352 = evFun Tryz.prog 352 2 a352 t352 := by kernel_rfl
theorem o352 : FnOk Tryz.prog 352 f352 := .of hmO (show enters Tryz.prog 352 = true by kernel_rfl) e352 (.cons o379 (.nil))

/- (*concord/exec.plan).do -/
def a309 : List Ann := [.no, .loop [22] [((.exit 0), [])], .no, .no, .no, .loop [31] [((.exit 2), [])], .no, .no]
theorem e309 : f309 = evFun Tryz.prog 309 2 a309 t309 := by kernel_rfl
theorem o309 : FnOk Tryz.prog 309 f309 := .of hmO (show enters Tryz.prog 309 = true by kernel_rfl) e309 (.cons o270 (.cons o350 (.cons o351 (.cons o352 (.nil)))))

/- (*concord/exec.plan).round -/
def a255 : List Ann := [.no, .loop [4, 13] [((.exit 0), [4])], .no, .join [(.normal, [4])], .no, .join [(.normal, [])], .no, .join [(.normal, [4])], .join [(.normal, [])]]
theorem e255 : f255 = evFun Tryz.prog 255 1 a255 t255 := by kernel_rfl
theorem o255 : FnOk Tryz.prog 255 f255 := .of hmO (show enters Tryz.prog 255 = true by kernel_rfl) e255 (.cons o305 (.cons o306 (.cons o308 (.cons o309 (.nil)))))

/- (*concord/inst.Set).List -/
def a256 : List Ann := [.no, .loop [3] [((.exit 0), [3])], .no, .no]
theorem e256 : f256 = evFun Tryz.prog 256 1 a256 t256 := by kernel_rfl
theorem o256 : FnOk Tryz.prog 256 f256 := .of hmO (show enters Tryz.prog 256 = true by kernel_rfl) e256 (.cons o270 (.nil))

/- concord/exec.Plan -/
def a193 : List Ann := [.no, .loop [19] [((.exit 0), [])], .no, .join [(.normal, [])], .no, .no, .loop [] [(.ret, [4, 5])], .no, .no]
theorem e193 : f193 = evFun Tryz.prog 193 2 a193 t193 := by kernel_rfl
theorem o193 : FnOk Tryz.prog 193 f193 := .of hmO (show enters Tryz.prog 193 = true by kernel_rfl) e193 (.cons o255 (.cons o256 (.nil)))

/- (*concord/log.Log).List -/
def a204 : List Ann := [.no, .loop [3] [((.exit 0), [3])], .no, .no]
theorem e204 : f204 = evFun Tryz.prog 204 1 a204 t204 := by kernel_rfl
theorem o204 : FnOk Tryz.prog 204 f204 := .of hmO (show enters Tryz.prog 204 = true by kernel_rfl) e204 (.cons o270 (.nil))

/- (*concord/core.Core).Cells -/
def a123 : List Ann := []
theorem e123 : f123 = evFun Tryz.prog 123 1 a123 t123 := by kernel_rfl
theorem o123 : FnOk Tryz.prog 123 f123 := .of hmO (show enters Tryz.prog 123 = true by kernel_rfl) e123 (.cons o204 (.nil))

/- (*concord/log.Log).Cell -/
def a205 : List Ann := [.no]
theorem e205 : f205 = evFun Tryz.prog 205 2 a205 t205 := by kernel_rfl
theorem o205 : FnOk Tryz.prog 205 f205 := .of hmO (show enters Tryz.prog 205 = true by kernel_rfl) e205 (.nil)

/- (*concord/core.Core).Cell -/
def a124 : List Ann := []
theorem e124 : f124 = evFun Tryz.prog 124 2 a124 t124 := by kernel_rfl
theorem o124 : FnOk Tryz.prog 124 f124 := .of hmO (show enters Tryz.prog 124 = true by kernel_rfl) e124 (.cons o205 (.nil))

/- (*concord/node.Node).committed -/
def a194 : List Ann := [.no, .loop [3, 14] [((.exit 0), [3])], .no, .no, .join [(.normal, [3])]]
theorem e194 : f194 = evFun Tryz.prog 194 1 a194 t194 := by kernel_rfl
theorem o194 : FnOk Tryz.prog 194 f194 := .of hmO (show enters Tryz.prog 194 = true by kernel_rfl) e194 (.cons o123 (.cons o124 (.nil)))

/- slices.Clone[[]concord/api.Pair,concord/api.Pair] -/
def a70 : List Ann := [.no]
theorem e70 : f70 = evFun Tryz.prog 70 1 a70 t70 := by kernel_rfl
theorem o70 : FnOk Tryz.prog 70 f70 := .of hmO (show enters Tryz.prog 70 = true by kernel_rfl) e70 (.nil)

/- concord/dedup.known -/
def a311 : List Ann := []
theorem e311 : f311 = evFun Tryz.prog 311 1 a311 t311 := by kernel_rfl
theorem o311 : FnOk Tryz.prog 311 f311 := .of hmO (show enters Tryz.prog 311 = true by kernel_rfl) e311 (.nil)

/- concord/dedup.copied -/
def a312 : List Ann := []
theorem e312 : f312 = evFun Tryz.prog 312 1 a312 t312 := by kernel_rfl
theorem o312 : FnOk Tryz.prog 312 f312 := .of hmO (show enters Tryz.prog 312 = true by kernel_rfl) e312 (.cons o70 (.nil))

/- concord/dedup.Note -/
def a259 : List Ann := [.join [(.normal, [])], .no, .loop [18] [((.exit 0), [])], .no, .no]
theorem e259 : f259 = evFun Tryz.prog 259 4 a259 t259 := by kernel_rfl
theorem o259 : FnOk Tryz.prog 259 f259 := .of hmO (show enters Tryz.prog 259 = true by kernel_rfl) e259 (.cons o311 (.cons o312 (.nil)))

/- concord/state.copied -/
def a203 : List Ann := []
theorem e203 : f203 = evFun Tryz.prog 203 1 a203 t203 := by kernel_rfl
theorem o203 : FnOk Tryz.prog 203 f203 := .of hmO (show enters Tryz.prog 203 = true by kernel_rfl) e203 (.cons o70 (.cons o259 (.nil)))

/- concord/dedup.Look -/
def a257 : List Ann := [.no, .no, .no, .no]
theorem e257 : f257 = evFun Tryz.prog 257 3 a257 t257 := by kernel_rfl
theorem o257 : FnOk Tryz.prog 257 f257 := .of hmO (show enters Tryz.prog 257 = true by kernel_rfl) e257 (.cons o311 (.nil))

/- concord/kv.find -/
def a355 : List Ann := [.no, .loop [10] [((.exit 0), []), (.ret, [4, 5])], .no, .no, .no]
theorem e355 : f355 = evFun Tryz.prog 355 2 a355 t355 := by kernel_rfl
theorem o355 : FnOk Tryz.prog 355 f355 := .of hmO (show enters Tryz.prog 355 = true by kernel_rfl) e355 (.nil)

/- concord/kv.Get -/
def a313 : List Ann := [.no]
theorem e313 : f313 = evFun Tryz.prog 313 2 a313 t313 := by kernel_rfl
theorem o313 : FnOk Tryz.prog 313 f313 := .of hmO (show enters Tryz.prog 313 = true by kernel_rfl) e313 (.cons o355 (.nil))

/- slices.Insert[[]concord/api.Pair,concord/api.Pair] -/
def a356 : List Ann := [.no, .no, .no, .no]
theorem e356 : f356 = evFun Tryz.prog 356 3 a356 t356 := by kernel_rfl
theorem o356 : FnOk Tryz.prog 356 f356 := .of hmO (show enters Tryz.prog 356 = true by kernel_rfl) e356 (.nil)

/- concord/kv.Put -/
def a314 : List Ann := [.no, .join [(.normal, [10])]]
theorem e314 : f314 = evFun Tryz.prog 314 3 a314 t314 := by kernel_rfl
theorem o314 : FnOk Tryz.prog 314 f314 := .of hmO (show enters Tryz.prog 314 = true by kernel_rfl) e314 (.cons o70 (.cons o355 (.cons o356 (.nil))))

/- concord/state.done -/
def a258 : List Ann := [.no, .no, .no, .no, .no, .no, .no]
theorem e258 : f258 = evFun Tryz.prog 258 2 a258 t258 := by kernel_rfl
theorem o258 : FnOk Tryz.prog 258 f258 := .of hmO (show enters Tryz.prog 258 = true by kernel_rfl) e258 (.cons o313 (.cons o314 (.nil)))

/- concord/state.Apply -/
def a195 : List Ann := [.no, .no, .no, .no, .no]
theorem e195 : f195 = evFun Tryz.prog 195 2 a195 t195 := by kernel_rfl
theorem o195 : FnOk Tryz.prog 195 f195 := .of hmO (show enters Tryz.prog 195 = true by kernel_rfl) e195 (.cons o48 (.cons o203 (.cons o257 (.cons o258 (.cons o259 (.nil))))))

/- (*concord/node.Node).run -/
def a113 : List Ann := [.no, .loop [20] [((.exit 0), [])], .no, .no, .no, .loop [67] [((.exit 2), [])], .no, .no]
theorem e113 : f113 = evFun Tryz.prog 113 1 a113 t113 := by kernel_rfl
theorem o113 : FnOk Tryz.prog 113 f113 := .of hmO (show enters Tryz.prog 113 = true by kernel_rfl) e113 (.cons o193 (.cons o194 (.cons o195 (.nil))))

/- (*concord/node.Node).answer -/
def a114 : List Ann := [.no, .loop [2, 12] [((.exit 0), [2])], .no, .no, .no, .join [(.normal, [2])], .join [(.normal, [2])]]
theorem e114 : f114 = evFun Tryz.prog 114 1 a114 t114 := by kernel_rfl
theorem o114 : FnOk Tryz.prog 114 f114 := .of hmO (show enters Tryz.prog 114 = true by kernel_rfl) e114 (.cons o70 (.nil))

/- (*concord/front.Fronts).Stable -/
def a199 : List Ann := [.no, .loop [20] [((.exit 0), [])], .no, .no, .no, .loop [29] [((.exit 2), [])], .no, .no]
theorem e199 : f199 = evFun Tryz.prog 199 1 a199 t199 := by kernel_rfl
theorem o199 : FnOk Tryz.prog 199 f199 := .of hmO (show enters Tryz.prog 199 = true by kernel_rfl) e199 (.nil)

/- (*concord/log.Log).Cut -/
def a265 : List Ann := []
theorem e265 : f265 = evFun Tryz.prog 265 1 a265 t265 := by kernel_rfl
theorem o265 : FnOk Tryz.prog 265 f265 := .of hmO (show enters Tryz.prog 265 = true by kernel_rfl) e265 (.nil)

/- (*concord/core.Core).Cut -/
def a200 : List Ann := []
theorem e200 : f200 = evFun Tryz.prog 200 1 a200 t200 := by kernel_rfl
theorem o200 : FnOk Tryz.prog 200 f200 := .of hmO (show enters Tryz.prog 200 = true by kernel_rfl) e200 (.cons o265 (.nil))

/- (*concord/node.Node).trim -/
def a117 : List Ann := [.no, .loop [4, 21] [((.exit 0), [4])], .no, .no, .no, .no, .loop [6, 56] [((.exit 2), [6])], .no, .no, .join [(.normal, [6])], .no]
theorem e117 : f117 = evFun Tryz.prog 117 1 a117 t117 := by kernel_rfl
theorem o117 : FnOk Tryz.prog 117 f117 := .of hmO (show enters Tryz.prog 117 = true by kernel_rfl) e117 (.cons o199 (.cons o200 (.nil)))

/- (*concord/node.Node).settle -/
def a45 : List Ann := [.no, .no]
theorem e45 : f45 = evFun Tryz.prog 45 1 a45 t45 := by kernel_rfl
theorem o45 : FnOk Tryz.prog 45 f45 := .of hmO (show enters Tryz.prog 45 = true by kernel_rfl) e45 (.cons o112 (.cons o113 (.cons o114 (.cons o117 (.nil)))))

/- concord/node.New -/
def a9 : List Ann := [.no, .no, .no, .no, .loop [14, 72] [((.exit 0), [14])], .no, .no, .join [(.normal, [14])], .join [(.normal, [14])], .no, .join [(.ret, [6, 7]), (.normal, [])], .no]
theorem e9 : f9 = evFun Tryz.prog 9 3 a9 t9 := by kernel_rfl
theorem o9 : FnOk Tryz.prog 9 f9 := .of hmO (show enters Tryz.prog 9 = true by kernel_rfl) e9 (.cons o35 (.cons o36 (.cons o37 (.cons o38 (.cons o39 (.cons o40 (.cons o41 (.cons o42 (.cons o43 (.cons o44 (.cons o45 (.nil))))))))))))

/- (*concord/node.Node).way -/
def a49 : List Ann := [.no, .loop [15] [((.exit 0), []), (.ret, [4])], .no, .no, .no]
theorem e49 : f49 = evFun Tryz.prog 49 2 a49 t49 := by kernel_rfl
theorem o49 : FnOk Tryz.prog 49 f49 := .of hmO (show enters Tryz.prog 49 = true by kernel_rfl) e49 (.cons o123 (.nil))

/- (*concord/log.Log).Top -/
def a125 : List Ann := [.no, .loop [] [((.exit 0), [])], .no, .no]
theorem e125 : f125 = evFun Tryz.prog 125 1 a125 t125 := by kernel_rfl
theorem o125 : FnOk Tryz.prog 125 f125 := .of hmO (show enters Tryz.prog 125 = true by kernel_rfl) e125 (.nil)

/- (*concord/interf.Index).Attr -/
def a126 : List Ann := [.no, .loop [] [((.exit 0), [])], .no, .no, .no, .no, .loop [59] [((.exit 2), [])], .no, .no, .no, .join [(.normal, [])], .join [(.normal, [])]]
theorem e126 : f126 = evFun Tryz.prog 126 3 a126 t126 := by kernel_rfl
theorem o126 : FnOk Tryz.prog 126 f126 := .of hmO (show enters Tryz.prog 126 = true by kernel_rfl) e126 (.cons o133 (.nil))

/- concord/pack.Flag -/
def a263 : List Ann := [.no]
theorem e263 : f263 = evFun Tryz.prog 263 2 a263 t263 := by kernel_rfl
theorem o263 : FnOk Tryz.prog 263 f263 := .of hmO (show enters Tryz.prog 263 = true by kernel_rfl) e263 (.cons o179 (.nil))

/- concord/letter.ballot -/
def a320 : List Ann := []
theorem e320 : f320 = evFun Tryz.prog 320 2 a320 t320 := by kernel_rfl
theorem o320 : FnOk Tryz.prog 320 f320 := .of hmO (show enters Tryz.prog 320 = true by kernel_rfl) e320 (.cons o110 (.nil))

/- concord/pack.Text -/
def a264 : List Ann := []
theorem e264 : f264 = evFun Tryz.prog 264 2 a264 t264 := by kernel_rfl
theorem o264 : FnOk Tryz.prog 264 f264 := .of hmO (show enters Tryz.prog 264 = true by kernel_rfl) e264 (.cons o179 (.cons o187 (.nil)))

/- concord/cmd.Put -/
def a321 : List Ann := [.no, .no, .no, .join [(.normal, [0])], .join [(.normal, [0])], .join [(.normal, [0])]]
theorem e321 : f321 = evFun Tryz.prog 321 2 a321 t321 := by kernel_rfl
theorem o321 : FnOk Tryz.prog 321 f321 := .of hmO (show enters Tryz.prog 321 = true by kernel_rfl) e321 (.cons o48 (.cons o110 (.cons o264 (.nil))))

/- concord/deps.Put -/
def a322 : List Ann := [.no, .loop [0, 13] [((.exit 0), [0])], .no, .no]
theorem e322 : f322 = evFun Tryz.prog 322 2 a322 t322 := by kernel_rfl
theorem o322 : FnOk Tryz.prog 322 f322 := .of hmO (show enters Tryz.prog 322 = true by kernel_rfl) e322 (.cons o110 (.nil))

/- concord/letter.PutCell -/
def a269 : List Ann := [.no, .no]
theorem e269 : f269 = evFun Tryz.prog 269 2 a269 t269 := by kernel_rfl
theorem o269 : FnOk Tryz.prog 269 f269 := .of hmO (show enters Tryz.prog 269 = true by kernel_rfl) e269 (.cons o110 (.cons o135 (.cons o263 (.cons o320 (.cons o321 (.cons o322 (.nil)))))))

/- concord/log.Record -/
def a202 : List Ann := []
theorem e202 : f202 = evFun Tryz.prog 202 2 a202 t202 := by kernel_rfl
theorem o202 : FnOk Tryz.prog 202 f202 := .of hmO (show enters Tryz.prog 202 = true by kernel_rfl) e202 (.cons o110 (.cons o269 (.nil)))

/- (*concord/core.Core).set -/
def a127 : List Ann := [.no]
theorem e127 : f127 = evFun Tryz.prog 127 3 a127 t127 := by kernel_rfl
theorem o127 : FnOk Tryz.prog 127 f127 := .of hmO (show enters Tryz.prog 127 = true by kernel_rfl) e127 (.cons o106 (.cons o107 (.cons o202 (.nil))))

/- (*concord/core.Core).leave$1 -/
def a275 : List Ann := []
theorem e275 : f275 = evFun Tryz.prog 275 2 a275 t275 := by kernel_rfl
theorem o275 : FnOk Tryz.prog 275 f275 := .of hmO (show enters Tryz.prog 275 = true by kernel_rfl) e275 (.nil)

/- slices.IndexFunc[[]*concord/core.lead,*concord/core.lead] -/
def a319 : List Ann := [.no, .loop [8] [((.exit 0), []), (.ret, [4])], .no, .no, .no]
theorem e319 : f319 = evFun Tryz.prog 319 2 a319 t319 := by kernel_rfl
theorem o319 : FnOk Tryz.prog 319 f319 := .of hmO (show enters Tryz.prog 319 = true by kernel_rfl) e319 (.cons o275 (.nil))

/- slices.DeleteFunc[[]*concord/core.lead,*concord/core.lead] -/
def a266 : List Ann := [.no, .no, .loop [5, 6] [((.exit 0), [5])], .no, .no, .join [(.normal, [5])]]
theorem e266 : f266 = evFun Tryz.prog 266 2 a266 t266 := by kernel_rfl
theorem o266 : FnOk Tryz.prog 266 f266 := .of hmO (show enters Tryz.prog 266 = true by kernel_rfl) e266 (.cons o319 (.nil))

/- (*concord/core.Core).leave -/
def a213 : List Ann := []
theorem e213 : f213 = evFun Tryz.prog 213 2 a213 t213 := by kernel_rfl
theorem o213 : FnOk Tryz.prog 213 f213 := .of hmO (show enters Tryz.prog 213 = true by kernel_rfl) e213 (.cons o266 (.nil))

/- slices.Insert[[]*concord/core.lead,*concord/core.lead] -/
def a273 : List Ann := [.no, .no, .no, .no]
theorem e273 : f273 = evFun Tryz.prog 273 3 a273 t273 := by kernel_rfl
theorem o273 : FnOk Tryz.prog 273 f273 := .of hmO (show enters Tryz.prog 273 = true by kernel_rfl) e273 (.nil)

/- (*concord/core.Core).take -/
def a206 : List Ann := [.no, .loop [4] [((.exit 0), [4])], .no, .no]
theorem e206 : f206 = evFun Tryz.prog 206 2 a206 t206 := by kernel_rfl
theorem o206 : FnOk Tryz.prog 206 f206 := .of hmO (show enters Tryz.prog 206 = true by kernel_rfl) e206 (.cons o213 (.cons o273 (.nil)))

/- (*concord/core.Core).send -/
def a211 : List Ann := []
theorem e211 : f211 = evFun Tryz.prog 211 3 a211 t211 := by kernel_rfl
theorem o211 : FnOk Tryz.prog 211 f211 := .of hmO (show enters Tryz.prog 211 = true by kernel_rfl) e211 (.nil)

/- (*concord/core.Core).all -/
def a207 : List Ann := [.no, .loop [11] [((.exit 0), [])], .no, .no, .join [(.normal, [])]]
theorem e207 : f207 = evFun Tryz.prog 207 3 a207 t207 := by kernel_rfl
theorem o207 : FnOk Tryz.prog 207 f207 := .of hmO (show enters Tryz.prog 207 = true by kernel_rfl) e207 (.cons o211 (.nil))

/- (*concord/core.lead).ask -/
def a208 : List Ann := [.no, .join [(.normal, [])], .join [(.normal, [])]]
theorem e208 : f208 = evFun Tryz.prog 208 1 a208 t208 := by kernel_rfl
theorem o208 : FnOk Tryz.prog 208 f208 := .of hmO (show enters Tryz.prog 208 = true by kernel_rfl) e208 (.nil)

/- (*concord/core.Core).begin -/
def a128 : List Ann := []
theorem e128 : f128 = evFun Tryz.prog 128 2 a128 t128 := by kernel_rfl
theorem o128 : FnOk Tryz.prog 128 f128 := .of hmO (show enters Tryz.prog 128 = true by kernel_rfl) e128 (.cons o206 (.cons o207 (.cons o208 (.nil))))

/- (*concord/core.Core).Propose -/
def a50 : List Ann := [.no, .no]
theorem e50 : f50 = evFun Tryz.prog 50 2 a50 t50 := by kernel_rfl
theorem o50 : FnOk Tryz.prog 50 f50 := .of hmO (show enters Tryz.prog 50 = true by kernel_rfl) e50 (.cons o48 (.cons o101 (.cons o125 (.cons o126 (.cons o127 (.cons o128 (.nil)))))))

/- slices.Index[[]concord/api.Inst,concord/api.Inst] -/
def a129 : List Ann := [.no, .loop [8] [((.exit 0), []), (.ret, [4])], .no, .no, .no]
theorem e129 : f129 = evFun Tryz.prog 129 2 a129 t129 := by kernel_rfl
theorem o129 : FnOk Tryz.prog 129 f129 := .of hmO (show enters Tryz.prog 129 = true by kernel_rfl) e129 (.nil)

/- slices.Contains[[]concord/api.Inst,concord/api.Inst] -/
def a51 : List Ann := []
theorem e51 : f51 = evFun Tryz.prog 51 2 a51 t51 := by kernel_rfl
theorem o51 : FnOk Tryz.prog 51 f51 := .of hmO (show enters Tryz.prog 51 = true by kernel_rfl) e51 (.cons o129 (.nil))

/- (*concord/node.Node).Ask -/
def a12 : List Ann := [.no, .no, .no, .join [(.ret, [4]), (.normal, [])], .no, .join [(.normal, [])]]
theorem e12 : f12 = evFun Tryz.prog 12 2 a12 t12 := by kernel_rfl
theorem o12 : FnOk Tryz.prog 12 f12 := .of hmO (show enters Tryz.prog 12 = true by kernel_rfl) e12 (.cons o45 (.cons o48 (.cons o49 (.cons o50 (.cons o51 (.nil))))))

/- concord/concordlaw23.put -/
def a13 : List Ann := []
theorem e13 : f13 = evFun Tryz.prog 13 3 a13 t13 := by kernel_rfl
theorem o13 : FnOk Tryz.prog 13 f13 := .of hmO (show enters Tryz.prog 13 = true by kernel_rfl) e13 (.nil)

/- concord/letter.named -/
def a130 : List Ann := [.no, .join [(.normal, [5])], .no, .no, .join [(.normal, [12])], .join [(.normal, [12])], .no, .no, .no, .join [(.normal, [23])], .no, .no]
theorem e130 : f130 = evFun Tryz.prog 130 1 a130 t130 := by kernel_rfl
theorem o130 : FnOk Tryz.prog 130 f130 := .of hmO (show enters Tryz.prog 130 = true by kernel_rfl) e130 (.nil)

/- concord/letter.place -/
def a131 : List Ann := []
theorem e131 : f131 = evFun Tryz.prog 131 1 a131 t131 := by kernel_rfl
theorem o131 : FnOk Tryz.prog 131 f131 := .of hmO (show enters Tryz.prog 131 = true by kernel_rfl) e131 (.nil)

/- concord/letter.bare -/
def a132 : List Ann := [.join [(.normal, [])], .join [(.normal, [])], .join [(.normal, [])], .join [(.normal, [])], .join [(.normal, [])], .join [(.normal, [])], .join [(.normal, [])]]
theorem e132 : f132 = evFun Tryz.prog 132 2 a132 t132 := by kernel_rfl
theorem o132 : FnOk Tryz.prog 132 f132 := .of hmO (show enters Tryz.prog 132 = true by kernel_rfl) e132 (.nil)

/- concord/letter.Right -/
def a54 : List Ann := [.no, .no]
theorem e54 : f54 = evFun Tryz.prog 54 1 a54 t54 := by kernel_rfl
theorem o54 : FnOk Tryz.prog 54 f54 := .of hmO (show enters Tryz.prog 54 = true by kernel_rfl) e54 (.cons o48 (.cons o101 (.cons o130 (.cons o131 (.cons o132 (.cons o133 (.cons o134 (.cons o135 (.nil)))))))))

/- (*concord/node.Node).want -/
def a136 : List Ann := [.no, .loop [6] [((.exit 0), [])], .no, .no]
theorem e136 : f136 = evFun Tryz.prog 136 3 a136 t136 := by kernel_rfl
theorem o136 : FnOk Tryz.prog 136 f136 := .of hmO (show enters Tryz.prog 136 = true by kernel_rfl) e136 (.nil)

/- concord/deps.Covers -/
def a137 : List Ann := [.no, .loop [8] [((.exit 0), []), (.ret, [4])], .no, .no, .no]
theorem e137 : f137 = evFun Tryz.prog 137 2 a137 t137 := by kernel_rfl
theorem o137 : FnOk Tryz.prog 137 f137 := .of hmO (show enters Tryz.prog 137 = true by kernel_rfl) e137 (.nil)

/- (*concord/node.Node).told -/
def a55 : List Ann := [.no, .loop [4, 9] [((.exit 0), [4])], .no, .no, .no]
theorem e55 : f55 = evFun Tryz.prog 55 2 a55 t55 := by kernel_rfl
theorem o55 : FnOk Tryz.prog 55 f55 := .of hmO (show enters Tryz.prog 55 = true by kernel_rfl) e55 (.cons o136 (.cons o137 (.nil)))

/- (*concord/core.Core).one -/
def a138 : List Ann := []
theorem e138 : f138 = evFun Tryz.prog 138 2 a138 t138 := by kernel_rfl
theorem o138 : FnOk Tryz.prog 138 f138 := .of hmO (show enters Tryz.prog 138 = true by kernel_rfl) e138 (.nil)

/- (*concord/core.Core).find -/
def a212 : List Ann := [.no, .loop [12] [((.exit 0), []), (.ret, [4])], .no, .no, .no]
theorem e212 : f212 = evFun Tryz.prog 212 2 a212 t212 := by kernel_rfl
theorem o212 : FnOk Tryz.prog 212 f212 := .of hmO (show enters Tryz.prog 212 = true by kernel_rfl) e212 (.nil)

/- concord/deps.Join -/
def a276 : List Ann := [.no, .no, .loop [18] [((.exit 0), [])], .no, .no, .no, .loop [30] [((.exit 2), [])], .no, .no]
theorem e276 : f276 = evFun Tryz.prog 276 1 a276 t276 := by kernel_rfl
theorem o276 : FnOk Tryz.prog 276 f276 := .of hmO (show enters Tryz.prog 276 = true by kernel_rfl) e276 (.nil)

/- (*concord/core.Core).pre -/
def a214 : List Ann := [.no, .no, .no]
theorem e214 : f214 = evFun Tryz.prog 214 4 a214 t214 := by kernel_rfl
theorem o214 : FnOk Tryz.prog 214 f214 := .of hmO (show enters Tryz.prog 214 = true by kernel_rfl) e214 (.cons o101 (.cons o126 (.cons o127 (.cons o211 (.cons o276 (.nil))))))

/- (*concord/core.Core).asked -/
def a140 : List Ann := [.no, .no, .join [(.normal, [])], .no, .no, .no, .no, .no, .join [(.ret, []), (.normal, [])], .no]
theorem e140 : f140 = evFun Tryz.prog 140 2 a140 t140 := by kernel_rfl
theorem o140 : FnOk Tryz.prog 140 f140 := .of hmO (show enters Tryz.prog 140 = true by kernel_rfl) e140 (.cons o127 (.cons o205 (.cons o209 (.cons o211 (.cons o212 (.cons o214 (.nil)))))))

/- (*concord/core.Core).told -/
def a141 : List Ann := [.no]
theorem e141 : f141 = evFun Tryz.prog 141 2 a141 t141 := by kernel_rfl
theorem o141 : FnOk Tryz.prog 141 f141 := .of hmO (show enters Tryz.prog 141 = true by kernel_rfl) e141 (.cons o127 (.cons o205 (.cons o213 (.nil))))

/- (*concord/core.Core).commit -/
def a218 : List Ann := [.no]
theorem e218 : f218 = evFun Tryz.prog 218 4 a218 t218 := by kernel_rfl
theorem o218 : FnOk Tryz.prog 218 f218 := .of hmO (show enters Tryz.prog 218 = true by kernel_rfl) e218 (.cons o127 (.cons o205 (.cons o207 (.cons o213 (.nil)))))

/- concord/quorum.Slow -/
def a217 : List Ann := []
theorem e217 : f217 = evFun Tryz.prog 217 1 a217 t217 := by kernel_rfl
theorem o217 : FnOk Tryz.prog 217 f217 := .of hmO (show enters Tryz.prog 217 = true by kernel_rfl) e217 (.nil)

/- concord/quorum.Fast -/
def a329 : List Ann := []
theorem e329 : f329 = evFun Tryz.prog 329 1 a329 t329 := by kernel_rfl
theorem o329 : FnOk Tryz.prog 329 f329 := .of hmO (show enters Tryz.prog 329 = true by kernel_rfl) e329 (.nil)

/- concord/quorum.Pre -/
def a277 : List Ann := [.no, .loop [12, 17] [((.exit 0), [12])], .no, .no, .join [(.normal, [12])], .no, .no]
theorem e277 : f277 = evFun Tryz.prog 277 5 a277 t277 := by kernel_rfl
theorem o277 : FnOk Tryz.prog 277 f277 := .of hmO (show enters Tryz.prog 277 = true by kernel_rfl) e277 (.cons o217 (.cons o276 (.cons o329 (.nil))))
end Go.Cn
