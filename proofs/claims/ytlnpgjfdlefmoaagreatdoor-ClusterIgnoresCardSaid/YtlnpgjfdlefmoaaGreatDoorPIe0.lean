/- Each of these functions is what the code does (printed by a program of the prover). -/
import Derived.Test.YtlnpgjfdlefmoaaGreatDoorPIh
namespace Go.Cn
open Go.Proofs
set_option maxRecDepth 100000
set_option linter.unusedVariables false
/- concord/disk.New -/
def a8 : List Ann := [.no]
theorem e8 : f8 = evFun Tryz.prog 8 1 a8 t8 := by kernel_rfl
theorem o8 : FnOk Tryz.prog 8 f8 := .of hmO (show enters Tryz.prog 8 = true by kernel_rfl) e8 (.nil)

/- concord/quorum.Fits -/
def a35 : List Ann := []
theorem e35 : f35 = evFun Tryz.prog 35 1 a35 t35 := by kernel_rfl
theorem o35 : FnOk Tryz.prog 35 f35 := .of hmO (show enters Tryz.prog 35 = true by kernel_rfl) e35 (.nil)

/- concord/front.New -/
def a36 : List Ann := [.no]
theorem e36 : f36 = evFun Tryz.prog 36 2 a36 t36 := by kernel_rfl
theorem o36 : FnOk Tryz.prog 36 f36 := .of hmO (show enters Tryz.prog 36 = true by kernel_rfl) e36 (.nil)

/- slices.Clone[[]byte,byte] -/
def a151 : List Ann := [.no]
theorem e151 : f151 = evFun Tryz.prog 151 1 a151 t151 := by kernel_rfl
theorem o151 : FnOk Tryz.prog 151 f151 := .of hmO (show enters Tryz.prog 151 = true by kernel_rfl) e151 (.nil)

/- (*concord/disk.Disk).find -/
def a166 : List Ann := [.no, .loop [13] [((.exit 0), []), (.ret, [4, 5])], .no, .no, .no]
theorem e166 : f166 = evFun Tryz.prog 166 2 a166 t166 := by kernel_rfl
theorem o166 : FnOk Tryz.prog 166 f166 := .of hmO (show enters Tryz.prog 166 = true by kernel_rfl) e166 (.nil)

/- (*concord/disk.Disk).Read -/
def a89 : List Ann := [.no]
theorem e89 : f89 = evFun Tryz.prog 89 2 a89 t89 := by kernel_rfl
theorem o89 : FnOk Tryz.prog 89 f89 := .of hmO (show enters Tryz.prog 89 = true by kernel_rfl) e89 (.cons o151 (.cons o166 (.nil)))

/- (*concord/node.Node).load -/
def a37 : List Ann := [.join [(.ret, [2]), (.normal, [])], .no, .no]
theorem e37 : f37 = evFun Tryz.prog 37 1 a37 t37 := by kernel_rfl
theorem o37 : FnOk Tryz.prog 37 f37 := .of hmO (show enters Tryz.prog 37 = true by kernel_rfl) e37 (.cons o89 (.nil))

/- (*concord/disk.Disk).Names -/
def a176 : List Ann := [.no, .loop [3, 11] [((.exit 0), [3])], .no, .no]
theorem e176 : f176 = evFun Tryz.prog 176 1 a176 t176 := by kernel_rfl
theorem o176 : FnOk Tryz.prog 176 f176 := .of hmO (show enters Tryz.prog 176 = true by kernel_rfl) e176 (.nil)

/- concord/wal.greatest -/
def a92 : List Ann := [.no, .loop [3, 15] [((.exit 0), [3])], .no, .join [(.normal, [3])], .no, .join [(.normal, [3])]]
theorem e92 : f92 = evFun Tryz.prog 92 1 a92 t92 := by kernel_rfl
theorem o92 : FnOk Tryz.prog 92 f92 := .of hmO (show enters Tryz.prog 92 = true by kernel_rfl) e92 (.cons o176 (.nil))

/- concord/wal.clean -/
def a93 : List Ann := [.no, .loop [13] [((.exit 0), []), (.ret, [4])], .no, .join [(.normal, []), (.ret, [4])], .no, .no]
theorem e93 : f93 = evFun Tryz.prog 93 2 a93 t93 := by kernel_rfl
theorem o93 : FnOk Tryz.prog 93 f93 := .of hmO (show enters Tryz.prog 93 = true by kernel_rfl) e93 (.cons o176 (.nil))

/- concord/wal.Open -/
def a38 : List Ann := [.no, .no, .no, .join [(.ret, [2, 3, 4]), (.normal, [])], .no, .no, .no]
theorem e38 : f38 = evFun Tryz.prog 38 1 a38 t38 := by kernel_rfl
theorem o38 : FnOk Tryz.prog 38 f38 := .of hmO (show enters Tryz.prog 38 = true by kernel_rfl) e38 (.cons o92 (.cons o93 (.nil)))

/- concord/deps.Right -/
def a101 : List Ann := [.no, .loop [7] [((.exit 0), []), (.ret, [2])], .no, .no, .no]
theorem e101 : f101 = evFun Tryz.prog 101 1 a101 t101 := by kernel_rfl
theorem o101 : FnOk Tryz.prog 101 f101 := .of hmO (show enters Tryz.prog 101 = true by kernel_rfl) e101 (.nil)

/- (*concord/log.Log).Trim -/
def a182 : List Ann := [.no, .loop [8] [((.exit 0), [])], .no, .no, .no, .loop [] [((.exit 2), [])], .no, .no, .no]
theorem e182 : f182 = evFun Tryz.prog 182 2 a182 t182 := by kernel_rfl
theorem o182 : FnOk Tryz.prog 182 f182 := .of hmO (show enters Tryz.prog 182 = true by kernel_rfl) e182 (.nil)

/- concord/log.New -/
def a102 : List Ann := []
theorem e102 : f102 = evFun Tryz.prog 102 1 a102 t102 := by kernel_rfl
theorem o102 : FnOk Tryz.prog 102 f102 := .of hmO (show enters Tryz.prog 102 = true by kernel_rfl) e102 (.cons o182 (.nil))

/- concord/interf.New -/
def a103 : List Ann := []
theorem e103 : f103 = evFun Tryz.prog 103 0 a103 t103 := by kernel_rfl
theorem o103 : FnOk Tryz.prog 103 f103 := .of hmO (show enters Tryz.prog 103 = true by kernel_rfl) e103 (.nil)

/- (*concord/interf.Index).Prune -/
def a104 : List Ann := [.no, .loop [8] [((.exit 0), [])], .no, .no, .no, .loop [] [((.exit 2), [])], .no, .no, .no]
theorem e104 : f104 = evFun Tryz.prog 104 2 a104 t104 := by kernel_rfl
theorem o104 : FnOk Tryz.prog 104 f104 := .of hmO (show enters Tryz.prog 104 = true by kernel_rfl) e104 (.nil)

/- concord/core.New -/
def a40 : List Ann := [.no, .no, .loop [49] [((.exit 0), [])], .no, .no, .join [(.normal, [])]]
theorem e40 : f40 = evFun Tryz.prog 40 4 a40 t40 := by kernel_rfl
theorem o40 : FnOk Tryz.prog 40 f40 := .of hmO (show enters Tryz.prog 40 = true by kernel_rfl) e40 (.cons o35 (.cons o101 (.cons o102 (.cons o103 (.cons o104 (.nil))))))

/- (*concord/wal.Wal).Where -/
def a41 : List Ann := []
theorem e41 : f41 = evFun Tryz.prog 41 1 a41 t41 := by kernel_rfl
theorem o41 : FnOk Tryz.prog 41 f41 := .of hmO (show enters Tryz.prog 41 = true by kernel_rfl) e41 (.nil)

/- concord/sum.On -/
def a240 : List Ann := [.no, .loop [0, 12] [((.exit 0), [0])], .no, .no, .no, .loop [0, 20] [((.exit 2), [0])], .no, .no, .join [(.normal, [0])]]
theorem e240 : f240 = evFun Tryz.prog 240 2 a240 t240 := by kernel_rfl
theorem o240 : FnOk Tryz.prog 240 f240 := .of hmO (show enters Tryz.prog 240 = true by kernel_rfl) e240 (.nil)

/- concord/sum.Of -/
def a168 : List Ann := []
theorem e168 : f168 = evFun Tryz.prog 168 1 a168 t168 := by kernel_rfl
theorem o168 : FnOk Tryz.prog 168 f168 := .of hmO (show enters Tryz.prog 168 = true by kernel_rfl) e168 (.cons o240 (.nil))

/- concord/word.Put -/
def a186 : List Ann := [.no, .loop [2, 7, 17] [((.exit 0), [7])], .no, .no]
theorem e186 : f186 = evFun Tryz.prog 186 3 a186 t186 := by kernel_rfl
theorem o186 : FnOk Tryz.prog 186 f186 := .of hmO (show enters Tryz.prog 186 = true by kernel_rfl) e186 (.nil)

/- concord/frame.Put -/
def a109 : List Ann := [.no]
theorem e109 : f109 = evFun Tryz.prog 109 2 a109 t109 := by kernel_rfl
theorem o109 : FnOk Tryz.prog 109 f109 := .of hmO (show enters Tryz.prog 109 = true by kernel_rfl) e109 (.cons o168 (.cons o186 (.nil)))

/- concord/wal.frames -/
def a108 : List Ann := [.no, .loop [0, 10] [((.exit 0), [0]), (.ret, [4, 5])], .no, .no, .no]
theorem e108 : f108 = evFun Tryz.prog 108 2 a108 t108 := by kernel_rfl
theorem o108 : FnOk Tryz.prog 108 f108 := .of hmO (show enters Tryz.prog 108 = true by kernel_rfl) e108 (.cons o109 (.nil))

/- concord/pack.grown -/
def a179 : List Ann := []
theorem e179 : f179 = evFun Tryz.prog 179 2 a179 t179 := by kernel_rfl
theorem o179 : FnOk Tryz.prog 179 f179 := .of hmO (show enters Tryz.prog 179 = true by kernel_rfl) e179 (.nil)

/- concord/word.Zig -/
def a250 : List Ann := []
theorem e250 : f250 = evFun Tryz.prog 250 1 a250 t250 := by kernel_rfl
theorem o250 : FnOk Tryz.prog 250 f250 := .of hmO (show enters Tryz.prog 250 = true by kernel_rfl) e250 (.nil)

/- concord/pack.num -/
def a187 : List Ann := [.no, .loop [0, 5] [((.exit 0), [0, 5])], .no, .no]
theorem e187 : f187 = evFun Tryz.prog 187 2 a187 t187 := by kernel_rfl
theorem o187 : FnOk Tryz.prog 187 f187 := .of hmO (show enters Tryz.prog 187 = true by kernel_rfl) e187 (.cons o250 (.nil))

/- concord/pack.Num -/
def a110 : List Ann := []
theorem e110 : f110 = evFun Tryz.prog 110 2 a110 t110 := by kernel_rfl
theorem o110 : FnOk Tryz.prog 110 f110 := .of hmO (show enters Tryz.prog 110 = true by kernel_rfl) e110 (.cons o179 (.cons o187 (.nil)))

/- internal/strconv.small -/
def a287 : List Ann := [.no]
theorem e287 : f287 = evFun Tryz.prog 287 1 a287 t287 := by kernel_rfl
theorem o287 : FnOk Tryz.prog 287 f287 := .of hmO (show enters Tryz.prog 287 = true by kernel_rfl) e287 (.nil)

/- internal/strconv.FormatInt -/
def a231 : List Ann := [.no, .no, .join [(.normal, [6])], .no]
theorem e231 : f231 = evFun Tryz.prog 231 2 a231 t231 := by kernel_rfl
theorem o231 : FnOk Tryz.prog 231 f231 := .of hmO (show enters Tryz.prog 231 = true by kernel_rfl) e231 (.cons o287 (.nil))

/- internal/strconv.Itoa -/
def a158 : List Ann := []
theorem e158 : f158 = evFun Tryz.prog 158 1 a158 t158 := by kernel_rfl
theorem o158 : FnOk Tryz.prog 158 f158 := .of hmO (show enters Tryz.prog 158 = true by kernel_rfl) e158 (.cons o231 (.nil))

/- strconv.Itoa -/
def a79 : List Ann := []
theorem e79 : f79 = evFun Tryz.prog 79 1 a79 t79 := by kernel_rfl
theorem o79 : FnOk Tryz.prog 79 f79 := .of hmO (show enters Tryz.prog 79 = true by kernel_rfl) e79 (.cons o158 (.nil))

/- (concord/wal.place).name -/
def a95 : List Ann := []
theorem e95 : f95 = evFun Tryz.prog 95 1 a95 t95 := by kernel_rfl
theorem o95 : FnOk Tryz.prog 95 f95 := .of hmO (show enters Tryz.prog 95 = true by kernel_rfl) e95 (.cons o79 (.nil))

/- (*concord/disk.Disk).known -/
def a173 : List Ann := [.no, .no]
theorem e173 : f173 = evFun Tryz.prog 173 2 a173 t173 := by kernel_rfl
theorem o173 : FnOk Tryz.prog 173 f173 := .of hmO (show enters Tryz.prog 173 = true by kernel_rfl) e173 (.cons o166 (.nil))

/- (*concord/disk.Disk).power -/
def a174 : List Ann := [.no, .no]
theorem e174 : f174 = evFun Tryz.prog 174 1 a174 t174 := by kernel_rfl
theorem o174 : FnOk Tryz.prog 174 f174 := .of hmO (show enters Tryz.prog 174 = true by kernel_rfl) e174 (.nil)

/- (*concord/disk.Disk).Sync -/
def a97 : List Ann := [.join [(.normal, [6])], .join [(.normal, [])]]
theorem e97 : f97 = evFun Tryz.prog 97 2 a97 t97 := by kernel_rfl
theorem o97 : FnOk Tryz.prog 97 f97 := .of hmO (show enters Tryz.prog 97 = true by kernel_rfl) e97 (.cons o173 (.cons o174 (.nil)))

/- concord/disk.may -/
def a251 : List Ann := [.no, .no, .loop [13] [((.exit 0), []), (.ret, [2])], .no, .no, .no]
theorem e251 : f251 = evFun Tryz.prog 251 1 a251 t251 := by kernel_rfl
theorem o251 : FnOk Tryz.prog 251 f251 := .of hmO (show enters Tryz.prog 251 = true by kernel_rfl) e251 (.nil)

/- (*concord/disk.Disk).Total -/
def a301 : List Ann := [.no, .loop [3, 11] [((.exit 0), [3])], .no, .no]
theorem e301 : f301 = evFun Tryz.prog 301 1 a301 t301 := by kernel_rfl
theorem o301 : FnOk Tryz.prog 301 f301 := .of hmO (show enters Tryz.prog 301 = true by kernel_rfl) e301 (.nil)

/- (*concord/disk.Disk).Room -/
def a252 : List Ann := []
theorem e252 : f252 = evFun Tryz.prog 252 1 a252 t252 := by kernel_rfl
theorem o252 : FnOk Tryz.prog 252 f252 := .of hmO (show enters Tryz.prog 252 = true by kernel_rfl) e252 (.cons o301 (.nil))

/- slices.Insert[[]concord/disk.file,concord/disk.file] -/
def a253 : List Ann := [.no, .no, .no, .no]
theorem e253 : f253 = evFun Tryz.prog 253 3 a253 t253 := by kernel_rfl
theorem o253 : FnOk Tryz.prog 253 f253 := .of hmO (show enters Tryz.prog 253 = true by kernel_rfl) e253 (.nil)

/- slices.Concat[[]byte,byte] -/
def a254 : List Ann := [.no, .loop [3, 11] [((.exit 0), [3])], .no, .no, .join [(.normal, [])], .no, .loop [6, 27] [((.exit 2), [6])], .no, .no]
theorem e254 : f254 = evFun Tryz.prog 254 1 a254 t254 := by kernel_rfl
theorem o254 : FnOk Tryz.prog 254 f254 := .of hmO (show enters Tryz.prog 254 = true by kernel_rfl) e254 (.cons o304 (.nil))

/- (*concord/disk.Disk).Append -/
def a188 : List Ann := [.no, .no, .no, .no, .no, .join [(.normal, [])]]
theorem e188 : f188 = evFun Tryz.prog 188 3 a188 t188 := by kernel_rfl
theorem o188 : FnOk Tryz.prog 188 f188 := .of hmO (show enters Tryz.prog 188 = true by kernel_rfl) e188 (.cons o166 (.cons o174 (.cons o251 (.cons o252 (.cons o253 (.cons o254 (.nil)))))))

/- (*concord/wal.Wal).write -/
def a111 : List Ann := [.no, .join [(.normal, [7])]]
theorem e111 : f111 = evFun Tryz.prog 111 3 a111 t111 := by kernel_rfl
theorem o111 : FnOk Tryz.prog 111 f111 := .of hmO (show enters Tryz.prog 111 = true by kernel_rfl) e111 (.cons o95 (.cons o97 (.cons o188 (.nil))))

/- (*concord/wal.Wal).Anew -/
def a42 : List Ann := [.no, .no, .no, .no, .no, .loop [9] [((.exit 0), []), (.ret, [4])], .no, .no, .no]
theorem e42 : f42 = evFun Tryz.prog 42 2 a42 t42 := by kernel_rfl
theorem o42 : FnOk Tryz.prog 42 f42 := .of hmO (show enters Tryz.prog 42 = true by kernel_rfl) e42 (.cons o108 (.cons o109 (.cons o110 (.cons o111 (.nil)))))

/- concord/node.cutRecord -/
def a43 : List Ann := [.no, .loop [3, 8] [((.exit 0), [3])], .no, .no]
theorem e43 : f43 = evFun Tryz.prog 43 1 a43 t43 := by kernel_rfl
theorem o43 : FnOk Tryz.prog 43 f43 := .of hmO (show enters Tryz.prog 43 = true by kernel_rfl) e43 (.cons o110 (.nil))

/- (*concord/front.Fronts).Hear -/
def a44 : List Ann := [.no, .no, .loop [26] [((.exit 0), [])], .no, .no]
theorem e44 : f44 = evFun Tryz.prog 44 3 a44 t44 := by kernel_rfl
theorem o44 : FnOk Tryz.prog 44 f44 := .of hmO (show enters Tryz.prog 44 = true by kernel_rfl) e44 (.cons o101 (.nil))

/- (*concord/core.Core).Drain -/
def a189 : List Ann := []
theorem e189 : f189 = evFun Tryz.prog 189 1 a189 t189 := by kernel_rfl
theorem o189 : FnOk Tryz.prog 189 f189 := .of hmO (show enters Tryz.prog 189 = true by kernel_rfl) e189 (.nil)

/- concord/node.cellRecord -/
def a190 : List Ann := []
theorem e190 : f190 = evFun Tryz.prog 190 1 a190 t190 := by kernel_rfl
theorem o190 : FnOk Tryz.prog 190 f190 := .of hmO (show enters Tryz.prog 190 = true by kernel_rfl) e190 (.nil)

/- (*concord/wal.Wal).Add -/
def a191 : List Ann := [.no, .no, .no, .no, .join [(.normal, [])], .no]
theorem e191 : f191 = evFun Tryz.prog 191 2 a191 t191 := by kernel_rfl
theorem o191 : FnOk Tryz.prog 191 f191 := .of hmO (show enters Tryz.prog 191 = true by kernel_rfl) e191 (.cons o89 (.cons o95 (.cons o108 (.cons o111 (.nil)))))

/- (*concord/node.Node).drain -/
def a112 : List Ann := [.no, .loop [17] [((.exit 0), [])], .no, .no, .no]
theorem e112 : f112 = evFun Tryz.prog 112 1 a112 t112 := by kernel_rfl
theorem o112 : FnOk Tryz.prog 112 f112 := .of hmO (show enters Tryz.prog 112 = true by kernel_rfl) e112 (.cons o189 (.cons o190 (.cons o191 (.nil))))

/- concord/inst.New -/
def a305 : List Ann := [.no, .loop [11] [((.exit 0), [])], .no, .no]
theorem e305 : f305 = evFun Tryz.prog 305 1 a305 t305 := by kernel_rfl
theorem o305 : FnOk Tryz.prog 305 f305 := .of hmO (show enters Tryz.prog 305 = true by kernel_rfl) e305 (.nil)

/- (*concord/exec.plan).beyond -/
def a306 : List Ann := [.no, .loop [] [((.exit 0), []), (.ret, [4])], .no, .no, .no]
theorem e306 : f306 = evFun Tryz.prog 306 2 a306 t306 := by kernel_rfl
theorem o306 : FnOk Tryz.prog 306 f306 := .of hmO (show enters Tryz.prog 306 = true by kernel_rfl) e306 (.nil)

/- concord/exec.upto -/
def a348 : List Ann := [.no]
theorem e348 : f348 = evFun Tryz.prog 348 3 a348 t348 := by kernel_rfl
theorem o348 : FnOk Tryz.prog 348 f348 := .of hmO (show enters Tryz.prog 348 = true by kernel_rfl) e348 (.nil)

/- (*concord/exec.plan).hangs -/
def a308 : List Ann := [.no, .loop [7, 8] [((.exit 0), [7]), (.ret, [4])], .no, .no, .no, .no, .loop [7, 41] [((.exit 2), [7]), (.ret, [4])], .no, .no, .no, .loop [7, 13] [((.exit 4), [7]), (.ret, [4])], .no, .no, .no, .join [(.normal, [7])]]
theorem e308 : f308 = evFun Tryz.prog 308 2 a308 t308 := by kernel_rfl
theorem o308 : FnOk Tryz.prog 308 f308 := .of hmO (show enters Tryz.prog 308 = true by kernel_rfl) e308 (.cons o305 (.cons o348 (.nil)))

/- slices.insertionSortCmpFunc[concord/api.Inst] -/
def a359 : List Ann := [.no, .loop [8] [((.exit 0), [])], .no, .no, .no, .loop [9] [((.exit 2), [])], .no, .no]
theorem e359 : f359 = evFun Tryz.prog 359 4 a359 t359 := by kernel_rfl
theorem o359 : FnOk Tryz.prog 359 f359 := .of hmO (show enters Tryz.prog 359 = true by kernel_rfl) e359 (.nil)

/- slices.pdqsortCmpFunc[concord/api.Inst] -/
def a323 : List Ann := [.no, .loop [1, 2, 3, 10, 11] [(.ret, [])], .no, .no, .no, .join [(.normal, [3])], .join [(.normal, [13, 14])], .join [(.ret, []), (.normal, [])], .no, .no, .no]
theorem e323 : f323 = evFun Tryz.prog 323 5 a323 t323 := by kernel_rfl
theorem o323 : FnOk Tryz.prog 323 f323 := .of hmO (show enters Tryz.prog 323 = true by kernel_rfl) e323 (.cons o359 (.nil))

/- math/bits.Len64 -/
def a332 : List Ann := [.join [(.normal, [0, 2])], .join [(.normal, [0, 2])], .join [(.normal, [0, 2])]]
theorem e332 : f332 = evFun Tryz.prog 332 1 a332 t332 := by kernel_rfl
theorem o332 : FnOk Tryz.prog 332 f332 := .of hmO (show enters Tryz.prog 332 = true by kernel_rfl) e332 (.nil)

/- math/bits.Len -/
def a324 : List Ann := [.no]
theorem e324 : f324 = evFun Tryz.prog 324 1 a324 t324 := by kernel_rfl
theorem o324 : FnOk Tryz.prog 324 f324 := .of hmO (show enters Tryz.prog 324 = true by kernel_rfl) e324 (.cons o332 (.nil))

/- slices.SortFunc[[]concord/api.Inst,concord/api.Inst] -/
def a270 : List Ann := []
theorem e270 : f270 = evFun Tryz.prog 270 2 a270 t270 := by kernel_rfl
theorem o270 : FnOk Tryz.prog 270 f270 := .of hmO (show enters Tryz.prog 270 = true by kernel_rfl) e270 (.cons o323 (.cons o324 (.nil)))

/- (*concord/graph.walk).come -/
def a392 : List Ann := []
theorem e392 : f392 = evFun Tryz.prog 392 2 a392 t392 := by kernel_rfl
theorem o392 : FnOk Tryz.prog 392 f392 := .of hmO (show enters Tryz.prog 392 = true by kernel_rfl) e392 (.nil)

/- (*concord/graph.walk).leave -/
def a393 : List Ann := [.no, .no, .loop [] [((.exit 0), [])], .no, .no]
theorem e393 : f393 = evFun Tryz.prog 393 2 a393 t393 := by kernel_rfl
theorem o393 : FnOk Tryz.prog 393 f393 := .of hmO (show enters Tryz.prog 393 = true by kernel_rfl) e393 (.nil)

/- (*concord/graph.walk).from -/
def a377 : List Ann := [.no, .loop [4] [((.exit 0), [])], .no, .no, .no, .no, .no, .no, .no, .no]
theorem e377 : f377 = evFun Tryz.prog 377 2 a377 t377 := by kernel_rfl
theorem o377 : FnOk Tryz.prog 377 f377 := .of hmO (show enters Tryz.prog 377 = true by kernel_rfl) e377 (.cons o392 (.cons o393 (.nil)))

/- concord/graph.order -/
def a378 : List Ann := [.no, .loop [27] [((.exit 0), [])], .no, .no, .no, .loop [34] [((.exit 2), [])], .no, .no, .join [(.normal, [])], .no, .loop [14] [((.exit 4), [14])], .no, .no, .no, .loop [15, 97] [((.exit 6), [15])], .no, .no, .join [(.normal, [15])], .no, .loop [148] [((.exit 8), [])], .no, .no]
theorem e378 : f378 = evFun Tryz.prog 378 3 a378 t378 := by kernel_rfl
theorem o378 : FnOk Tryz.prog 378 f378 := .of hmO (show enters Tryz.prog 378 = true by kernel_rfl) e378 (.nil)

/- concord/graph.Parts -/
def a350 : List Ann := [.no, .no, .loop [26] [((.exit 0), [])], .no, .no, .join [(.normal, [])], .no, .loop [51] [((.exit 2), [])], .no, .no]
theorem e350 : f350 = evFun Tryz.prog 350 1 a350 t350 := by kernel_rfl
theorem o350 : FnOk Tryz.prog 350 f350 := .of hmO (show enters Tryz.prog 350 = true by kernel_rfl) e350 (.cons o377 (.cons o378 (.nil)))

/- (*concord/exec.plan).edges -/
def a351 : List Ann := [.no, .loop [16] [((.exit 0), [])], .no, .no, .no, .loop [31] [((.exit 2), [])], .no, .no, .join [(.normal, [])]]
theorem e351 : f351 = evFun Tryz.prog 351 2 a351 t351 := by kernel_rfl
theorem o351 : FnOk Tryz.prog 351 f351 := .of hmO (show enters Tryz.prog 351 = true by kernel_rfl) e351 (.nil)

/- slices.insertionSortCmpFunc[int] -/
def a394 : List Ann := [.no, .loop [8] [((.exit 0), [])], .no, .no, .no, .loop [9] [((.exit 2), [])], .no, .no]
theorem e394 : f394 = evFun Tryz.prog 394 4 a394 t394 := by kernel_rfl
theorem o394 : FnOk Tryz.prog 394 f394 := .of hmO (show enters Tryz.prog 394 = true by kernel_rfl) e394 (.nil)

/- slices.stableCmpFunc[int] -/
def a379 : List Ann := [.no, .loop [7, 8] [((.exit 0), [7])], .no, .no, .no, .loop [6] [((.exit 2), [])], .no, .no, .no, .loop [7, 8] [((.exit 4), [7])], .no, .no, .join [(.normal, [])]]
theorem e379 : f379 = evFun Tryz.prog 379 3 a379 t379 := by kernel_rfl
theorem o379 : FnOk Tryz.prog 379 f379 := .of hmO (show enters Tryz.prog 379 = true by kernel_rfl) e379 (.cons o394 (.nil))

/- slices.SortStableFunc[[]int,int] -/
def a352 : List Ann := []
theorem e352 : f352 = evFun Tryz.prog 352 2 a352 t352 := by kernel_rfl
theorem o352 : FnOk Tryz.prog 352 f352 := .of hmO (show enters Tryz.prog 352 = true by kernel_rfl) e352 (.cons o379 (.nil))

/- (*concord/exec.plan).do -/
def a309 : List Ann := [.no, .loop [22] [((.exit 0), [])], .no, .no, .no, .loop [31] [((.exit 2), [])], .no, .no]
theorem e309 : f309 = evFun Tryz.prog 309 2 a309 t309 := by kernel_rfl
theorem o309 : FnOk Tryz.prog 309 f309 := .of hmO (show enters Tryz.prog 309 = true by kernel_rfl) e309 (.cons o270 (.cons o350 (.cons o351 (.cons o352 (.nil)))))

/- (*concord/exec.plan).round -/
def a255 : List Ann := [.no, .loop [4, 13] [((.exit 0), [4])], .no, .join [(.normal, [4])], .no, .join [(.normal, [])], .no, .join [(.normal, [4])], .join [(.normal, [])]]
theorem e255 : f255 = evFun Tryz.prog 255 1 a255 t255 := by kernel_rfl
theorem o255 : FnOk Tryz.prog 255 f255 := .of hmO (show enters Tryz.prog 255 = true by kernel_rfl) e255 (.cons o305 (.cons o306 (.cons o308 (.cons o309 (.nil)))))

/- (*concord/inst.Set).List -/
def a256 : List Ann := [.no, .loop [3] [((.exit 0), [3])], .no, .no]
theorem e256 : f256 = evFun Tryz.prog 256 1 a256 t256 := by kernel_rfl
theorem o256 : FnOk Tryz.prog 256 f256 := .of hmO (show enters Tryz.prog 256 = true by kernel_rfl) e256 (.cons o270 (.nil))

/- concord/exec.Plan -/
def a193 : List Ann := [.no, .loop [19] [((.exit 0), [])], .no, .join [(.normal, [])], .no, .no, .loop [] [(.ret, [4, 5])], .no, .no]
theorem e193 : f193 = evFun Tryz.prog 193 2 a193 t193 := by kernel_rfl
theorem o193 : FnOk Tryz.prog 193 f193 := .of hmO (show enters Tryz.prog 193 = true by kernel_rfl) e193 (.cons o255 (.cons o256 (.nil)))

/- (*concord/log.Log).List -/
def a204 : List Ann := [.no, .loop [3] [((.exit 0), [3])], .no, .no]
theorem e204 : f204 = evFun Tryz.prog 204 1 a204 t204 := by kernel_rfl
theorem o204 : FnOk Tryz.prog 204 f204 := .of hmO (show enters Tryz.prog 204 = true by kernel_rfl) e204 (.cons o270 (.nil))

/- (*concord/core.Core).Cells -/
def a123 : List Ann := []
theorem e123 : f123 = evFun Tryz.prog 123 1 a123 t123 := by kernel_rfl
theorem o123 : FnOk Tryz.prog 123 f123 := .of hmO (show enters Tryz.prog 123 = true by kernel_rfl) e123 (.cons o204 (.nil))

/- (*concord/log.Log).Cell -/
def a205 : List Ann := [.no]
theorem e205 : f205 = evFun Tryz.prog 205 2 a205 t205 := by kernel_rfl
theorem o205 : FnOk Tryz.prog 205 f205 := .of hmO (show enters Tryz.prog 205 = true by kernel_rfl) e205 (.nil)

/- (*concord/core.Core).Cell -/
def a124 : List Ann := []
theorem e124 : f124 = evFun Tryz.prog 124 2 a124 t124 := by kernel_rfl
theorem o124 : FnOk Tryz.prog 124 f124 := .of hmO (show enters Tryz.prog 124 = true by kernel_rfl) e124 (.cons o205 (.nil))

/- (*concord/node.Node).committed -/
def a194 : List Ann := [.no, .loop [3, 14] [((.exit 0), [3])], .no, .no, .join [(.normal, [3])]]
theorem e194 : f194 = evFun Tryz.prog 194 1 a194 t194 := by kernel_rfl
theorem o194 : FnOk Tryz.prog 194 f194 := .of hmO (show enters Tryz.prog 194 = true by kernel_rfl) e194 (.cons o123 (.cons o124 (.nil)))

/- concord/cmd.within -/
def a121 : List Ann := []
theorem e121 : f121 = evFun Tryz.prog 121 2 a121 t121 := by kernel_rfl
theorem o121 : FnOk Tryz.prog 121 f121 := .of hmO (show enters Tryz.prog 121 = true by kernel_rfl) e121 (.nil)

/- concord/cmd.bare -/
def a122 : List Ann := [.no, .join [(.normal, [])], .join [(.normal, [])], .join [(.normal, [])]]
theorem e122 : f122 = evFun Tryz.prog 122 1 a122 t122 := by kernel_rfl
theorem o122 : FnOk Tryz.prog 122 f122 := .of hmO (show enters Tryz.prog 122 = true by kernel_rfl) e122 (.nil)

/- concord/cmd.Right -/
def a48 : List Ann := [.no, .no]
theorem e48 : f48 = evFun Tryz.prog 48 1 a48 t48 := by kernel_rfl
theorem o48 : FnOk Tryz.prog 48 f48 := .of hmO (show enters Tryz.prog 48 = true by kernel_rfl) e48 (.cons o121 (.cons o122 (.nil)))

/- slices.Clone[[]concord/api.Pair,concord/api.Pair] -/
def a70 : List Ann := [.no]
theorem e70 : f70 = evFun Tryz.prog 70 1 a70 t70 := by kernel_rfl
theorem o70 : FnOk Tryz.prog 70 f70 := .of hmO (show enters Tryz.prog 70 = true by kernel_rfl) e70 (.nil)

/- concord/dedup.known -/
def a311 : List Ann := []
theorem e311 : f311 = evFun Tryz.prog 311 1 a311 t311 := by kernel_rfl
theorem o311 : FnOk Tryz.prog 311 f311 := .of hmO (show enters Tryz.prog 311 = true by kernel_rfl) e311 (.nil)

/- concord/dedup.copied -/
def a312 : List Ann := []
theorem e312 : f312 = evFun Tryz.prog 312 1 a312 t312 := by kernel_rfl
theorem o312 : FnOk Tryz.prog 312 f312 := .of hmO (show enters Tryz.prog 312 = true by kernel_rfl) e312 (.cons o70 (.nil))

/- concord/dedup.Note -/
def a259 : List Ann := [.join [(.normal, [])], .no, .loop [18] [((.exit 0), [])], .no, .no]
theorem e259 : f259 = evFun Tryz.prog 259 4 a259 t259 := by kernel_rfl
theorem o259 : FnOk Tryz.prog 259 f259 := .of hmO (show enters Tryz.prog 259 = true by kernel_rfl) e259 (.cons o311 (.cons o312 (.nil)))

/- concord/state.copied -/
def a203 : List Ann := []
theorem e203 : f203 = evFun Tryz.prog 203 1 a203 t203 := by kernel_rfl
theorem o203 : FnOk Tryz.prog 203 f203 := .of hmO (show enters Tryz.prog 203 = true by kernel_rfl) e203 (.cons o70 (.cons o259 (.nil)))

/- concord/dedup.Look -/
def a257 : List Ann := [.no, .no, .no, .no]
theorem e257 : f257 = evFun Tryz.prog 257 3 a257 t257 := by kernel_rfl
theorem o257 : FnOk Tryz.prog 257 f257 := .of hmO (show enters Tryz.prog 257 = true by kernel_rfl) e257 (.cons o311 (.nil))

/- concord/kv.find -/
def a355 : List Ann := [.no, .loop [10] [((.exit 0), []), (.ret, [4, 5])], .no, .no, .no]
theorem e355 : f355 = evFun Tryz.prog 355 2 a355 t355 := by kernel_rfl
theorem o355 : FnOk Tryz.prog 355 f355 := .of hmO (show enters Tryz.prog 355 = true by kernel_rfl) e355 (.nil)

/- concord/kv.Get -/
def a313 : List Ann := [.no]
theorem e313 : f313 = evFun Tryz.prog 313 2 a313 t313 := by kernel_rfl
theorem o313 : FnOk Tryz.prog 313 f313 := .of hmO (show enters Tryz.prog 313 = true by kernel_rfl) e313 (.cons o355 (.nil))

/- slices.Insert[[]concord/api.Pair,concord/api.Pair] -/
def a356 : List Ann := [.no, .no, .no, .no]
theorem e356 : f356 = evFun Tryz.prog 356 3 a356 t356 := by kernel_rfl
theorem o356 : FnOk Tryz.prog 356 f356 := .of hmO (show enters Tryz.prog 356 = true by kernel_rfl) e356 (.nil)

/- concord/kv.Put -/
def a314 : List Ann := [.no, .join [(.normal, [10])]]
theorem e314 : f314 = evFun Tryz.prog 314 3 a314 t314 := by kernel_rfl
theorem o314 : FnOk Tryz.prog 314 f314 := .of hmO (show enters Tryz.prog 314 = true by kernel_rfl) e314 (.cons o70 (.cons o355 (.cons o356 (.nil))))

/- concord/state.done -/
def a258 : List Ann := [.no, .no, .no, .no, .no, .no, .no]
theorem e258 : f258 = evFun Tryz.prog 258 2 a258 t258 := by kernel_rfl
theorem o258 : FnOk Tryz.prog 258 f258 := .of hmO (show enters Tryz.prog 258 = true by kernel_rfl) e258 (.cons o313 (.cons o314 (.nil)))

/- concord/state.Apply -/
def a195 : List Ann := [.no, .no, .no, .no, .no]
theorem e195 : f195 = evFun Tryz.prog 195 2 a195 t195 := by kernel_rfl
theorem o195 : FnOk Tryz.prog 195 f195 := .of hmO (show enters Tryz.prog 195 = true by kernel_rfl) e195 (.cons o48 (.cons o203 (.cons o257 (.cons o258 (.cons o259 (.nil))))))

/- (*concord/node.Node).run -/
def a113 : List Ann := [.no, .loop [20] [((.exit 0), [])], .no, .no, .no, .loop [67] [((.exit 2), [])], .no, .no]
theorem e113 : f113 = evFun Tryz.prog 113 1 a113 t113 := by kernel_rfl
theorem o113 : FnOk Tryz.prog 113 f113 := .of hmO (show enters Tryz.prog 113 = true by kernel_rfl) e113 (.cons o193 (.cons o194 (.cons o195 (.nil))))

/- (*concord/node.Node).answer -/
def a114 : List Ann := [.no, .loop [2, 12] [((.exit 0), [2])], .no, .no, .no, .join [(.normal, [2])], .join [(.normal, [2])]]
theorem e114 : f114 = evFun Tryz.prog 114 1 a114 t114 := by kernel_rfl
theorem o114 : FnOk Tryz.prog 114 f114 := .of hmO (show enters Tryz.prog 114 = true by kernel_rfl) e114 (.cons o70 (.nil))

/- (*concord/front.Fronts).Stable -/
def a199 : List Ann := [.no, .loop [20] [((.exit 0), [])], .no, .no, .no, .loop [29] [((.exit 2), [])], .no, .no]
theorem e199 : f199 = evFun Tryz.prog 199 1 a199 t199 := by kernel_rfl
theorem o199 : FnOk Tryz.prog 199 f199 := .of hmO (show enters Tryz.prog 199 = true by kernel_rfl) e199 (.nil)

/- (*concord/log.Log).Cut -/
def a265 : List Ann := []
theorem e265 : f265 = evFun Tryz.prog 265 1 a265 t265 := by kernel_rfl
theorem o265 : FnOk Tryz.prog 265 f265 := .of hmO (show enters Tryz.prog 265 = true by kernel_rfl) e265 (.nil)

/- (*concord/core.Core).Cut -/
def a200 : List Ann := []
theorem e200 : f200 = evFun Tryz.prog 200 1 a200 t200 := by kernel_rfl
theorem o200 : FnOk Tryz.prog 200 f200 := .of hmO (show enters Tryz.prog 200 = true by kernel_rfl) e200 (.cons o265 (.nil))

/- (*concord/node.Node).trim -/
def a117 : List Ann := [.no, .loop [4, 21] [((.exit 0), [4])], .no, .no, .no, .no, .loop [6, 56] [((.exit 2), [6])], .no, .no, .join [(.normal, [6])], .no]
theorem e117 : f117 = evFun Tryz.prog 117 1 a117 t117 := by kernel_rfl
theorem o117 : FnOk Tryz.prog 117 f117 := .of hmO (show enters Tryz.prog 117 = true by kernel_rfl) e117 (.cons o199 (.cons o200 (.nil)))

/- (*concord/node.Node).settle -/
def a45 : List Ann := [.no, .no]
theorem e45 : f45 = evFun Tryz.prog 45 1 a45 t45 := by kernel_rfl
theorem o45 : FnOk Tryz.prog 45 f45 := .of hmO (show enters Tryz.prog 45 = true by kernel_rfl) e45 (.cons o112 (.cons o113 (.cons o114 (.cons o117 (.nil)))))

/- concord/node.New -/
def a9 : List Ann := [.no, .no, .no, .no, .loop [14, 72] [((.exit 0), [14])], .no, .no, .join [(.normal, [14])], .join [(.normal, [14])], .no, .join [(.ret, [6, 7]), (.normal, [])], .no]
theorem e9 : f9 = evFun Tryz.prog 9 3 a9 t9 := by kernel_rfl
theorem o9 : FnOk Tryz.prog 9 f9 := .of hmO (show enters Tryz.prog 9 = true by kernel_rfl) e9 (.cons o35 (.cons o36 (.cons o37 (.cons o38 (.cons o40 (.cons o41 (.cons o42 (.cons o43 (.cons o44 (.cons o45 (.nil)))))))))))

/- concord/client.New -/
def a59 : List Ann := [.no]
theorem e59 : f59 = evFun Tryz.prog 59 1 a59 t59 := by kernel_rfl
theorem o59 : FnOk Tryz.prog 59 f59 := .of hmO (show enters Tryz.prog 59 = true by kernel_rfl) e59 (.nil)

/- (*concord/node.Node).Out -/
def a17 : List Ann := []
theorem e17 : f17 = evFun Tryz.prog 17 1 a17 t17 := by kernel_rfl
theorem o17 : FnOk Tryz.prog 17 f17 := .of hmO (show enters Tryz.prog 17 = true by kernel_rfl) e17 (.nil)

/- concord/cluster.known -/
def a144 : List Ann := []
theorem e144 : f144 = evFun Tryz.prog 144 1 a144 t144 := by kernel_rfl
theorem o144 : FnOk Tryz.prog 144 f144 := .of hmO (show enters Tryz.prog 144 = true by kernel_rfl) e144 (.nil)

/- (*concord/client.Client).Tell -/
def a145 : List Ann := [.no]
theorem e145 : f145 = evFun Tryz.prog 145 2 a145 t145 := by kernel_rfl
theorem o145 : FnOk Tryz.prog 145 f145 := .of hmO (show enters Tryz.prog 145 = true by kernel_rfl) e145 (.nil)

/- (*concord/cluster.Cluster).out -/
def a60 : List Ann := [.no, .loop [23] [((.exit 0), [])], .no, .no, .join [(.normal, [])], .no, .loop [55] [((.exit 2), [])], .no, .no, .join [(.normal, [])]]
theorem e60 : f60 = evFun Tryz.prog 60 2 a60 t60 := by kernel_rfl
theorem o60 : FnOk Tryz.prog 60 f60 := .of hmO (show enters Tryz.prog 60 = true by kernel_rfl) e60 (.cons o17 (.cons o70 (.cons o144 (.cons o145 (.nil)))))

/- concord/cluster.New -/
def a18 : List Ann := [.no, .loop [20] [((.exit 0), []), (.ret, [2, 3])], .no, .no, .no, .no, .loop [10] [((.exit 2), [])], .no, .no, .no, .loop [82] [((.exit 4), [])], .no, .no]
theorem e18 : f18 = evFun Tryz.prog 18 1 a18 t18 := by kernel_rfl
theorem o18 : FnOk Tryz.prog 18 f18 := .of hmO (show enters Tryz.prog 18 = true by kernel_rfl) e18 (.cons o8 (.cons o9 (.cons o59 (.cons o60 (.nil)))))

/- (*concord/client.Client).Begin -/
def a146 : List Ann := [.no]
theorem e146 : f146 = evFun Tryz.prog 146 3 a146 t146 := by kernel_rfl
theorem o146 : FnOk Tryz.prog 146 f146 := .of hmO (show enters Tryz.prog 146 = true by kernel_rfl) e146 (.cons o48 (.nil))

/- (*concord/node.Node).way -/
def a49 : List Ann := [.no, .loop [15] [((.exit 0), []), (.ret, [4])], .no, .no, .no]
theorem e49 : f49 = evFun Tryz.prog 49 2 a49 t49 := by kernel_rfl
theorem o49 : FnOk Tryz.prog 49 f49 := .of hmO (show enters Tryz.prog 49 = true by kernel_rfl) e49 (.cons o123 (.nil))

/- (*concord/log.Log).Top -/
def a125 : List Ann := [.no, .loop [] [((.exit 0), [])], .no, .no]
theorem e125 : f125 = evFun Tryz.prog 125 1 a125 t125 := by kernel_rfl
theorem o125 : FnOk Tryz.prog 125 f125 := .of hmO (show enters Tryz.prog 125 = true by kernel_rfl) e125 (.nil)

/- concord/inst.Right -/
def a133 : List Ann := []
theorem e133 : f133 = evFun Tryz.prog 133 1 a133 t133 := by kernel_rfl
theorem o133 : FnOk Tryz.prog 133 f133 := .of hmO (show enters Tryz.prog 133 = true by kernel_rfl) e133 (.nil)

/- (*concord/interf.Index).Attr -/
def a126 : List Ann := [.no, .loop [] [((.exit 0), [])], .no, .no, .no, .no, .loop [59] [((.exit 2), [])], .no, .no, .no, .join [(.normal, [])], .join [(.normal, [])]]
theorem e126 : f126 = evFun Tryz.prog 126 3 a126 t126 := by kernel_rfl
theorem o126 : FnOk Tryz.prog 126 f126 := .of hmO (show enters Tryz.prog 126 = true by kernel_rfl) e126 (.cons o133 (.nil))

/- concord/inst.RightBallot -/
def a134 : List Ann := []
theorem e134 : f134 = evFun Tryz.prog 134 1 a134 t134 := by kernel_rfl
theorem o134 : FnOk Tryz.prog 134 f134 := .of hmO (show enters Tryz.prog 134 = true by kernel_rfl) e134 (.nil)

/- concord/inst.Below -/
def a209 : List Ann := []
theorem e209 : f209 = evFun Tryz.prog 209 2 a209 t209 := by kernel_rfl
theorem o209 : FnOk Tryz.prog 209 f209 := .of hmO (show enters Tryz.prog 209 = true by kernel_rfl) e209 (.nil)

/- concord/letter.RightCell -/
def a135 : List Ann := [.no, .no]
theorem e135 : f135 = evFun Tryz.prog 135 1 a135 t135 := by kernel_rfl
theorem o135 : FnOk Tryz.prog 135 f135 := .of hmO (show enters Tryz.prog 135 = true by kernel_rfl) e135 (.cons o48 (.cons o101 (.cons o134 (.cons o209 (.nil)))))

/- (*concord/log.Log).Gone -/
def a139 : List Ann := []
theorem e139 : f139 = evFun Tryz.prog 139 2 a139 t139 := by kernel_rfl
theorem o139 : FnOk Tryz.prog 139 f139 := .of hmO (show enters Tryz.prog 139 = true by kernel_rfl) e139 (.cons o133 (.nil))

/- concord/log.may -/
def a184 : List Ann := [.no, .no]
theorem e184 : f184 = evFun Tryz.prog 184 2 a184 t184 := by kernel_rfl
theorem o184 : FnOk Tryz.prog 184 f184 := .of hmO (show enters Tryz.prog 184 = true by kernel_rfl) e184 (.cons o209 (.nil))

/- (*concord/log.Log).Set -/
def a106 : List Ann := [.no, .no]
theorem e106 : f106 = evFun Tryz.prog 106 3 a106 t106 := by kernel_rfl
theorem o106 : FnOk Tryz.prog 106 f106 := .of hmO (show enters Tryz.prog 106 = true by kernel_rfl) e106 (.cons o133 (.cons o135 (.cons o139 (.cons o184 (.nil)))))

/- (*concord/interf.Index).Note -/
def a185 : List Ann := [.no]
theorem e185 : f185 = evFun Tryz.prog 185 4 a185 t185 := by kernel_rfl
theorem o185 : FnOk Tryz.prog 185 f185 := .of hmO (show enters Tryz.prog 185 = true by kernel_rfl) e185 (.cons o48 (.cons o133 (.nil)))

/- (*concord/core.Core).note -/
def a107 : List Ann := [.no]
theorem e107 : f107 = evFun Tryz.prog 107 3 a107 t107 := by kernel_rfl
theorem o107 : FnOk Tryz.prog 107 f107 := .of hmO (show enters Tryz.prog 107 = true by kernel_rfl) e107 (.cons o185 (.nil))

/- concord/pack.Flag -/
def a263 : List Ann := [.no]
theorem e263 : f263 = evFun Tryz.prog 263 2 a263 t263 := by kernel_rfl
theorem o263 : FnOk Tryz.prog 263 f263 := .of hmO (show enters Tryz.prog 263 = true by kernel_rfl) e263 (.cons o179 (.nil))

/- concord/letter.ballot -/
def a320 : List Ann := []
theorem e320 : f320 = evFun Tryz.prog 320 2 a320 t320 := by kernel_rfl
theorem o320 : FnOk Tryz.prog 320 f320 := .of hmO (show enters Tryz.prog 320 = true by kernel_rfl) e320 (.cons o110 (.nil))

/- concord/pack.Text -/
def a264 : List Ann := []
theorem e264 : f264 = evFun Tryz.prog 264 2 a264 t264 := by kernel_rfl
theorem o264 : FnOk Tryz.prog 264 f264 := .of hmO (show enters Tryz.prog 264 = true by kernel_rfl) e264 (.cons o179 (.cons o187 (.nil)))

/- concord/cmd.Put -/
def a321 : List Ann := [.no, .no, .no, .join [(.normal, [0])], .join [(.normal, [0])], .join [(.normal, [0])]]
theorem e321 : f321 = evFun Tryz.prog 321 2 a321 t321 := by kernel_rfl
theorem o321 : FnOk Tryz.prog 321 f321 := .of hmO (show enters Tryz.prog 321 = true by kernel_rfl) e321 (.cons o48 (.cons o110 (.cons o264 (.nil))))

/- concord/deps.Put -/
def a322 : List Ann := [.no, .loop [0, 13] [((.exit 0), [0])], .no, .no]
theorem e322 : f322 = evFun Tryz.prog 322 2 a322 t322 := by kernel_rfl
theorem o322 : FnOk Tryz.prog 322 f322 := .of hmO (show enters Tryz.prog 322 = true by kernel_rfl) e322 (.cons o110 (.nil))

/- concord/letter.PutCell -/
def a269 : List Ann := [.no, .no]
theorem e269 : f269 = evFun Tryz.prog 269 2 a269 t269 := by kernel_rfl
theorem o269 : FnOk Tryz.prog 269 f269 := .of hmO (show enters Tryz.prog 269 = true by kernel_rfl) e269 (.cons o110 (.cons o135 (.cons o263 (.cons o320 (.cons o321 (.cons o322 (.nil)))))))

/- concord/log.Record -/
def a202 : List Ann := []
theorem e202 : f202 = evFun Tryz.prog 202 2 a202 t202 := by kernel_rfl
theorem o202 : FnOk Tryz.prog 202 f202 := .of hmO (show enters Tryz.prog 202 = true by kernel_rfl) e202 (.cons o110 (.cons o269 (.nil)))

/- (*concord/core.Core).set -/
def a127 : List Ann := [.no]
theorem e127 : f127 = evFun Tryz.prog 127 3 a127 t127 := by kernel_rfl
theorem o127 : FnOk Tryz.prog 127 f127 := .of hmO (show enters Tryz.prog 127 = true by kernel_rfl) e127 (.cons o106 (.cons o107 (.cons o202 (.nil))))

/- (*concord/core.Core).leave$1 -/
def a275 : List Ann := []
theorem e275 : f275 = evFun Tryz.prog 275 2 a275 t275 := by kernel_rfl
theorem o275 : FnOk Tryz.prog 275 f275 := .of hmO (show enters Tryz.prog 275 = true by kernel_rfl) e275 (.nil)

/- slices.IndexFunc[[]*concord/core.lead,*concord/core.lead] -/
def a319 : List Ann := [.no, .loop [8] [((.exit 0), []), (.ret, [4])], .no, .no, .no]
theorem e319 : f319 = evFun Tryz.prog 319 2 a319 t319 := by kernel_rfl
theorem o319 : FnOk Tryz.prog 319 f319 := .of hmO (show enters Tryz.prog 319 = true by kernel_rfl) e319 (.cons o275 (.nil))

/- slices.DeleteFunc[[]*concord/core.lead,*concord/core.lead] -/
def a266 : List Ann := [.no, .no, .loop [5, 6] [((.exit 0), [5])], .no, .no, .join [(.normal, [5])]]
theorem e266 : f266 = evFun Tryz.prog 266 2 a266 t266 := by kernel_rfl
theorem o266 : FnOk Tryz.prog 266 f266 := .of hmO (show enters Tryz.prog 266 = true by kernel_rfl) e266 (.cons o319 (.nil))

/- (*concord/core.Core).leave -/
def a213 : List Ann := []
theorem e213 : f213 = evFun Tryz.prog 213 2 a213 t213 := by kernel_rfl
theorem o213 : FnOk Tryz.prog 213 f213 := .of hmO (show enters Tryz.prog 213 = true by kernel_rfl) e213 (.cons o266 (.nil))

/- slices.Insert[[]*concord/core.lead,*concord/core.lead] -/
def a273 : List Ann := [.no, .no, .no, .no]
theorem e273 : f273 = evFun Tryz.prog 273 3 a273 t273 := by kernel_rfl
theorem o273 : FnOk Tryz.prog 273 f273 := .of hmO (show enters Tryz.prog 273 = true by kernel_rfl) e273 (.nil)

/- (*concord/core.Core).take -/
def a206 : List Ann := [.no, .loop [4] [((.exit 0), [4])], .no, .no]
theorem e206 : f206 = evFun Tryz.prog 206 2 a206 t206 := by kernel_rfl
theorem o206 : FnOk Tryz.prog 206 f206 := .of hmO (show enters Tryz.prog 206 = true by kernel_rfl) e206 (.cons o213 (.cons o273 (.nil)))

/- (*concord/core.Core).send -/
def a211 : List Ann := []
theorem e211 : f211 = evFun Tryz.prog 211 3 a211 t211 := by kernel_rfl
theorem o211 : FnOk Tryz.prog 211 f211 := .of hmO (show enters Tryz.prog 211 = true by kernel_rfl) e211 (.nil)

/- (*concord/core.Core).all -/
def a207 : List Ann := [.no, .loop [11] [((.exit 0), [])], .no, .no, .join [(.normal, [])]]
theorem e207 : f207 = evFun Tryz.prog 207 3 a207 t207 := by kernel_rfl
theorem o207 : FnOk Tryz.prog 207 f207 := .of hmO (show enters Tryz.prog 207 = true by kernel_rfl) e207 (.cons o211 (.nil))
end Go.Cn
