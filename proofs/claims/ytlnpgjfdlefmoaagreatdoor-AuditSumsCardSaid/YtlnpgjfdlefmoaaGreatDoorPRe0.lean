/- Each of these functions is what the code does (printed by a program of the prover). -/
import Derived.Test.YtlnpgjfdlefmoaaGreatDoorPRh
namespace Go.Cn
open Go.Proofs
set_option maxRecDepth 100000
set_option linter.unusedVariables false
/- concord/disk.New -/
def a8 : List Ann := [.no]
theorem e8 : f8 = evFun Tryz.prog 8 1 a8 t8 := by kernel_rfl
theorem o8 : FnOk Tryz.prog 8 f8 := .of hmO (show enters Tryz.prog 8 = true by kernel_rfl) e8 (.nil)

/- concord/quorum.Fits -/
def a35 : List Ann := []
theorem e35 : f35 = evFun Tryz.prog 35 1 a35 t35 := by kernel_rfl
theorem o35 : FnOk Tryz.prog 35 f35 := .of hmO (show enters Tryz.prog 35 = true by kernel_rfl) e35 (.nil)

/- concord/front.New -/
def a36 : List Ann := [.no]
theorem e36 : f36 = evFun Tryz.prog 36 2 a36 t36 := by kernel_rfl
theorem o36 : FnOk Tryz.prog 36 f36 := .of hmO (show enters Tryz.prog 36 = true by kernel_rfl) e36 (.nil)

/- slices.Clone[[]byte,byte] -/
def a151 : List Ann := [.no]
theorem e151 : f151 = evFun Tryz.prog 151 1 a151 t151 := by kernel_rfl
theorem o151 : FnOk Tryz.prog 151 f151 := .of hmO (show enters Tryz.prog 151 = true by kernel_rfl) e151 (.nil)

/- (*concord/disk.Disk).find -/
def a166 : List Ann := [.no, .loop [13] [((.exit 0), []), (.ret, [4, 5])], .no, .no, .no]
theorem e166 : f166 = evFun Tryz.prog 166 2 a166 t166 := by kernel_rfl
theorem o166 : FnOk Tryz.prog 166 f166 := .of hmO (show enters Tryz.prog 166 = true by kernel_rfl) e166 (.nil)

/- (*concord/disk.Disk).Read -/
def a89 : List Ann := [.no]
theorem e89 : f89 = evFun Tryz.prog 89 2 a89 t89 := by kernel_rfl
theorem o89 : FnOk Tryz.prog 89 f89 := .of hmO (show enters Tryz.prog 89 = true by kernel_rfl) e89 (.cons o151 (.cons o166 (.nil)))

/- (*concord/node.Node).load -/
def a37 : List Ann := [.join [(.ret, [2]), (.normal, [])], .no, .no]
theorem e37 : f37 = evFun Tryz.prog 37 1 a37 t37 := by kernel_rfl
theorem o37 : FnOk Tryz.prog 37 f37 := .of hmO (show enters Tryz.prog 37 = true by kernel_rfl) e37 (.cons o89 (.nil))

/- internal/strconv.small -/
def a287 : List Ann := [.no]
theorem e287 : f287 = evFun Tryz.prog 287 1 a287 t287 := by kernel_rfl
theorem o287 : FnOk Tryz.prog 287 f287 := .of hmO (show enters Tryz.prog 287 = true by kernel_rfl) e287 (.nil)

/- internal/strconv.FormatInt -/
def a231 : List Ann := [.no, .no, .join [(.normal, [6])], .no]
theorem e231 : f231 = evFun Tryz.prog 231 2 a231 t231 := by kernel_rfl
theorem o231 : FnOk Tryz.prog 231 f231 := .of hmO (show enters Tryz.prog 231 = true by kernel_rfl) e231 (.cons o287 (.nil))

/- internal/strconv.Itoa -/
def a158 : List Ann := []
theorem e158 : f158 = evFun Tryz.prog 158 1 a158 t158 := by kernel_rfl
theorem o158 : FnOk Tryz.prog 158 f158 := .of hmO (show enters Tryz.prog 158 = true by kernel_rfl) e158 (.cons o231 (.nil))

/- strconv.Itoa -/
def a79 : List Ann := []
theorem e79 : f79 = evFun Tryz.prog 79 1 a79 t79 := by kernel_rfl
theorem o79 : FnOk Tryz.prog 79 f79 := .of hmO (show enters Tryz.prog 79 = true by kernel_rfl) e79 (.cons o158 (.nil))

/- (concord/wal.place).name -/
def a95 : List Ann := []
theorem e95 : f95 = evFun Tryz.prog 95 1 a95 t95 := by kernel_rfl
theorem o95 : FnOk Tryz.prog 95 f95 := .of hmO (show enters Tryz.prog 95 = true by kernel_rfl) e95 (.cons o79 (.nil))

/- concord/pack.grown -/
def a179 : List Ann := []
theorem e179 : f179 = evFun Tryz.prog 179 2 a179 t179 := by kernel_rfl
theorem o179 : FnOk Tryz.prog 179 f179 := .of hmO (show enters Tryz.prog 179 = true by kernel_rfl) e179 (.nil)

/- concord/pack.Read -/
def a98 : List Ann := []
theorem e98 : f98 = evFun Tryz.prog 98 1 a98 t98 := by kernel_rfl
theorem o98 : FnOk Tryz.prog 98 f98 := .of hmO (show enters Tryz.prog 98 = true by kernel_rfl) e98 (.cons o179 (.nil))

/- concord/word.Zag -/
def a181 : List Ann := []
theorem e181 : f181 = evFun Tryz.prog 181 1 a181 t181 := by kernel_rfl
theorem o181 : FnOk Tryz.prog 181 f181 := .of hmO (show enters Tryz.prog 181 = true by kernel_rfl) e181 (.nil)

/- (*concord/pack.Reader).Num -/
def a99 : List Ann := [.no, .no, .loop [4, 5] [(.ret, [2])], .no, .no, .no, .no]
theorem e99 : f99 = evFun Tryz.prog 99 1 a99 t99 := by kernel_rfl
theorem o99 : FnOk Tryz.prog 99 f99 := .of hmO (show enters Tryz.prog 99 = true by kernel_rfl) e99 (.cons o181 (.nil))

/- (*concord/pack.Reader).End -/
def a100 : List Ann := [.join [(.normal, [])]]
theorem e100 : f100 = evFun Tryz.prog 100 1 a100 t100 := by kernel_rfl
theorem o100 : FnOk Tryz.prog 100 f100 := .of hmO (show enters Tryz.prog 100 = true by kernel_rfl) e100 (.nil)

/- concord/word.Get -/
def a167 : List Ann := [.no, .no, .no, .loop [8, 40] [((.exit 0), [8])], .no, .no]
theorem e167 : f167 = evFun Tryz.prog 167 3 a167 t167 := by kernel_rfl
theorem o167 : FnOk Tryz.prog 167 f167 := .of hmO (show enters Tryz.prog 167 = true by kernel_rfl) e167 (.nil)

/- concord/sum.On -/
def a240 : List Ann := [.no, .loop [0, 12] [((.exit 0), [0])], .no, .no, .no, .loop [0, 20] [((.exit 2), [0])], .no, .no, .join [(.normal, [0])]]
theorem e240 : f240 = evFun Tryz.prog 240 2 a240 t240 := by kernel_rfl
theorem o240 : FnOk Tryz.prog 240 f240 := .of hmO (show enters Tryz.prog 240 = true by kernel_rfl) e240 (.nil)

/- concord/sum.Of -/
def a168 : List Ann := []
theorem e168 : f168 = evFun Tryz.prog 168 1 a168 t168 := by kernel_rfl
theorem o168 : FnOk Tryz.prog 168 f168 := .of hmO (show enters Tryz.prog 168 = true by kernel_rfl) e168 (.cons o240 (.nil))

/- concord/frame.Next -/
def a245 : List Ann := [.no, .no, .no, .no, .no]
theorem e245 : f245 = evFun Tryz.prog 245 2 a245 t245 := by kernel_rfl
theorem o245 : FnOk Tryz.prog 245 f245 := .of hmO (show enters Tryz.prog 245 = true by kernel_rfl) e245 (.cons o167 (.cons o168 (.nil)))

/- concord/frame.Scan -/
def a178 : List Ann := [.no, .loop [4, 5] [(.ret, [2, 3])], .no, .no]
theorem e178 : f178 = evFun Tryz.prog 178 1 a178 t178 := by kernel_rfl
theorem o178 : FnOk Tryz.prog 178 f178 := .of hmO (show enters Tryz.prog 178 = true by kernel_rfl) e178 (.cons o245 (.nil))

/- concord/wal.read -/
def a94 : List Ann := [.no, .loop [6, 8, 9] [((.exit 0), [6, 8]), (.ret, [4, 6, 7])], .no, .no, .no, .no, .no, .no]
theorem e94 : f94 = evFun Tryz.prog 94 2 a94 t94 := by kernel_rfl
theorem o94 : FnOk Tryz.prog 94 f94 := .of hmO (show enters Tryz.prog 94 = true by kernel_rfl) e94 (.cons o89 (.cons o95 (.cons o98 (.cons o99 (.cons o100 (.cons o178 (.nil)))))))

/- (*concord/disk.Disk).Names -/
def a176 : List Ann := [.no, .loop [3, 11] [((.exit 0), [3])], .no, .no]
theorem e176 : f176 = evFun Tryz.prog 176 1 a176 t176 := by kernel_rfl
theorem o176 : FnOk Tryz.prog 176 f176 := .of hmO (show enters Tryz.prog 176 = true by kernel_rfl) e176 (.nil)

/- internal/stringslite.Index -/
def a298 : List Ann := [.no, .no, .no, .no, .no, .no, .loop [8, 10] [((.exit 1), []), (.ret, [4])], .no, .no, .join [(.ret, [4]), (.normal, [8])], .no, .no, .no, .no, .no, .no]
theorem e298 : f298 = evFun Tryz.prog 298 2 a298 t298 := by kernel_rfl
theorem o298 : FnOk Tryz.prog 298 f298 := .of hmO (show enters Tryz.prog 298 = true by kernel_rfl) e298 (.cons o294 (.nil))

/- internal/stringslite.Cut -/
def a238 : List Ann := [.no]
theorem e238 : f238 = evFun Tryz.prog 238 2 a238 t238 := by kernel_rfl
theorem o238 : FnOk Tryz.prog 238 f238 := .of hmO (show enters Tryz.prog 238 = true by kernel_rfl) e238 (.cons o298 (.nil))

/- strings.Cut -/
def a164 : List Ann := []
theorem e164 : f164 = evFun Tryz.prog 164 2 a164 t164 := by kernel_rfl
theorem o164 : FnOk Tryz.prog 164 f164 := .of hmO (show enters Tryz.prog 164 = true by kernel_rfl) e164 (.cons o238 (.nil))

/- internal/strconv.Atoi -/
def a292 : List Ann := [.no, .join [(.ret, [2, 3]), (.normal, [0])], .no, .no, .loop [6, 49] [((.exit 0), [6]), (.ret, [2, 3])], .no, .no, .no, .join [(.normal, [6])]]
theorem e292 : f292 = evFun Tryz.prog 292 1 a292 t292 := by kernel_rfl
theorem o292 : FnOk Tryz.prog 292 f292 := .of hmO (show enters Tryz.prog 292 = true by kernel_rfl) e292 (.nil)

/- strconv.Atoi -/
def a233 : List Ann := [.no]
theorem e233 : f233 = evFun Tryz.prog 233 1 a233 t233 := by kernel_rfl
theorem o233 : FnOk Tryz.prog 233 f233 := .of hmO (show enters Tryz.prog 233 = true by kernel_rfl) e233 (.cons o292 (.nil))

/- internal/stringslite.HasPrefix -/
def a346 : List Ann := []
theorem e346 : f346 = evFun Tryz.prog 346 2 a346 t346 := by kernel_rfl
theorem o346 : FnOk Tryz.prog 346 f346 := .of hmO (show enters Tryz.prog 346 = true by kernel_rfl) e346 (.nil)

/- internal/stringslite.TrimPrefix -/
def a300 : List Ann := [.no]
theorem e300 : f300 = evFun Tryz.prog 300 2 a300 t300 := by kernel_rfl
theorem o300 : FnOk Tryz.prog 300 f300 := .of hmO (show enters Tryz.prog 300 = true by kernel_rfl) e300 (.cons o346 (.nil))

/- strings.TrimPrefix -/
def a244 : List Ann := []
theorem e244 : f244 = evFun Tryz.prog 244 2 a244 t244 := by kernel_rfl
theorem o244 : FnOk Tryz.prog 244 f244 := .of hmO (show enters Tryz.prog 244 = true by kernel_rfl) e244 (.cons o300 (.nil))

/- concord/wal.placed -/
def a177 : List Ann := []
theorem e177 : f177 = evFun Tryz.prog 177 1 a177 t177 := by kernel_rfl
theorem o177 : FnOk Tryz.prog 177 f177 := .of hmO (show enters Tryz.prog 177 = true by kernel_rfl) e177 (.cons o95 (.cons o164 (.cons o233 (.cons o244 (.nil)))))

/- concord/wal.greatest -/
def a92 : List Ann := [.no, .loop [3, 15] [((.exit 0), [3])], .no, .join [(.normal, [3])], .no, .join [(.normal, [3])]]
theorem e92 : f92 = evFun Tryz.prog 92 1 a92 t92 := by kernel_rfl
theorem o92 : FnOk Tryz.prog 92 f92 := .of hmO (show enters Tryz.prog 92 = true by kernel_rfl) e92 (.cons o94 (.cons o176 (.cons o177 (.nil))))

/- concord/wal.clean -/
def a93 : List Ann := [.no, .loop [13] [((.exit 0), []), (.ret, [4])], .no, .join [(.normal, []), (.ret, [4])], .no, .no]
theorem e93 : f93 = evFun Tryz.prog 93 2 a93 t93 := by kernel_rfl
theorem o93 : FnOk Tryz.prog 93 f93 := .of hmO (show enters Tryz.prog 93 = true by kernel_rfl) e93 (.cons o176 (.cons o177 (.nil)))

/- (*concord/disk.Disk).known -/
def a173 : List Ann := [.no, .no]
theorem e173 : f173 = evFun Tryz.prog 173 2 a173 t173 := by kernel_rfl
theorem o173 : FnOk Tryz.prog 173 f173 := .of hmO (show enters Tryz.prog 173 = true by kernel_rfl) e173 (.cons o166 (.nil))

/- (*concord/disk.Disk).power -/
def a174 : List Ann := [.no, .no]
theorem e174 : f174 = evFun Tryz.prog 174 1 a174 t174 := by kernel_rfl
theorem o174 : FnOk Tryz.prog 174 f174 := .of hmO (show enters Tryz.prog 174 = true by kernel_rfl) e174 (.nil)

/- (*concord/disk.Disk).Sync -/
def a97 : List Ann := [.join [(.normal, [6])], .join [(.normal, [])]]
theorem e97 : f97 = evFun Tryz.prog 97 2 a97 t97 := by kernel_rfl
theorem o97 : FnOk Tryz.prog 97 f97 := .of hmO (show enters Tryz.prog 97 = true by kernel_rfl) e97 (.cons o173 (.cons o174 (.nil)))

/- concord/wal.Open -/
def a38 : List Ann := [.no, .no, .no, .join [(.ret, [2, 3, 4]), (.normal, [])], .no, .no, .no]
theorem e38 : f38 = evFun Tryz.prog 38 1 a38 t38 := by kernel_rfl
theorem o38 : FnOk Tryz.prog 38 f38 := .of hmO (show enters Tryz.prog 38 = true by kernel_rfl) e38 (.cons o89 (.cons o92 (.cons o93 (.cons o94 (.cons o95 (.cons o97 (.nil)))))))

/- concord/deps.Right -/
def a101 : List Ann := [.no, .loop [7] [((.exit 0), []), (.ret, [2])], .no, .no, .no]
theorem e101 : f101 = evFun Tryz.prog 101 1 a101 t101 := by kernel_rfl
theorem o101 : FnOk Tryz.prog 101 f101 := .of hmO (show enters Tryz.prog 101 = true by kernel_rfl) e101 (.nil)

/- concord/node.getCut -/
def a39 : List Ann := [.no, .no, .loop [20] [((.exit 0), [])], .no, .no]
theorem e39 : f39 = evFun Tryz.prog 39 1 a39 t39 := by kernel_rfl
theorem o39 : FnOk Tryz.prog 39 f39 := .of hmO (show enters Tryz.prog 39 = true by kernel_rfl) e39 (.cons o98 (.cons o99 (.cons o100 (.cons o101 (.nil)))))

/- (*concord/log.Log).Trim -/
def a182 : List Ann := [.no, .loop [8] [((.exit 0), [])], .no, .no, .no, .loop [] [((.exit 2), [])], .no, .no, .no]
theorem e182 : f182 = evFun Tryz.prog 182 2 a182 t182 := by kernel_rfl
theorem o182 : FnOk Tryz.prog 182 f182 := .of hmO (show enters Tryz.prog 182 = true by kernel_rfl) e182 (.nil)

/- concord/log.New -/
def a102 : List Ann := []
theorem e102 : f102 = evFun Tryz.prog 102 1 a102 t102 := by kernel_rfl
theorem o102 : FnOk Tryz.prog 102 f102 := .of hmO (show enters Tryz.prog 102 = true by kernel_rfl) e102 (.cons o182 (.nil))

/- concord/interf.New -/
def a103 : List Ann := []
theorem e103 : f103 = evFun Tryz.prog 103 0 a103 t103 := by kernel_rfl
theorem o103 : FnOk Tryz.prog 103 f103 := .of hmO (show enters Tryz.prog 103 = true by kernel_rfl) e103 (.nil)

/- (*concord/interf.Index).Prune -/
def a104 : List Ann := [.no, .loop [8] [((.exit 0), [])], .no, .no, .no, .loop [] [((.exit 2), [])], .no, .no, .no]
theorem e104 : f104 = evFun Tryz.prog 104 2 a104 t104 := by kernel_rfl
theorem o104 : FnOk Tryz.prog 104 f104 := .of hmO (show enters Tryz.prog 104 = true by kernel_rfl) e104 (.nil)

/- concord/inst.Right -/
def a133 : List Ann := []
theorem e133 : f133 = evFun Tryz.prog 133 1 a133 t133 := by kernel_rfl
theorem o133 : FnOk Tryz.prog 133 f133 := .of hmO (show enters Tryz.prog 133 = true by kernel_rfl) e133 (.nil)

/- concord/cmd.within -/
def a121 : List Ann := []
theorem e121 : f121 = evFun Tryz.prog 121 2 a121 t121 := by kernel_rfl
theorem o121 : FnOk Tryz.prog 121 f121 := .of hmO (show enters Tryz.prog 121 = true by kernel_rfl) e121 (.nil)

/- concord/cmd.bare -/
def a122 : List Ann := [.no, .join [(.normal, [])], .join [(.normal, [])], .join [(.normal, [])]]
theorem e122 : f122 = evFun Tryz.prog 122 1 a122 t122 := by kernel_rfl
theorem o122 : FnOk Tryz.prog 122 f122 := .of hmO (show enters Tryz.prog 122 = true by kernel_rfl) e122 (.nil)

/- concord/cmd.Right -/
def a48 : List Ann := [.no, .no]
theorem e48 : f48 = evFun Tryz.prog 48 1 a48 t48 := by kernel_rfl
theorem o48 : FnOk Tryz.prog 48 f48 := .of hmO (show enters Tryz.prog 48 = true by kernel_rfl) e48 (.cons o121 (.cons o122 (.nil)))

/- concord/inst.RightBallot -/
def a134 : List Ann := []
theorem e134 : f134 = evFun Tryz.prog 134 1 a134 t134 := by kernel_rfl
theorem o134 : FnOk Tryz.prog 134 f134 := .of hmO (show enters Tryz.prog 134 = true by kernel_rfl) e134 (.nil)

/- concord/inst.Below -/
def a209 : List Ann := []
theorem e209 : f209 = evFun Tryz.prog 209 2 a209 t209 := by kernel_rfl
theorem o209 : FnOk Tryz.prog 209 f209 := .of hmO (show enters Tryz.prog 209 = true by kernel_rfl) e209 (.nil)

/- concord/letter.RightCell -/
def a135 : List Ann := [.no, .no]
theorem e135 : f135 = evFun Tryz.prog 135 1 a135 t135 := by kernel_rfl
theorem o135 : FnOk Tryz.prog 135 f135 := .of hmO (show enters Tryz.prog 135 = true by kernel_rfl) e135 (.cons o48 (.cons o101 (.cons o134 (.cons o209 (.nil)))))

/- (*concord/pack.Reader).Wrong -/
def a169 : List Ann := []
theorem e169 : f169 = evFun Tryz.prog 169 1 a169 t169 := by kernel_rfl
theorem o169 : FnOk Tryz.prog 169 f169 := .of hmO (show enters Tryz.prog 169 = true by kernel_rfl) e169 (.nil)

/- (*concord/pack.Reader).Flag -/
def a242 : List Ann := [.no, .no, .no]
theorem e242 : f242 = evFun Tryz.prog 242 1 a242 t242 := by kernel_rfl
theorem o242 : FnOk Tryz.prog 242 f242 := .of hmO (show enters Tryz.prog 242 = true by kernel_rfl) e242 (.nil)

/- concord/letter.getBallot -/
def a246 : List Ann := []
theorem e246 : f246 = evFun Tryz.prog 246 1 a246 t246 := by kernel_rfl
theorem o246 : FnOk Tryz.prog 246 f246 := .of hmO (show enters Tryz.prog 246 = true by kernel_rfl) e246 (.cons o99 (.nil))

/- (*concord/pack.Reader).Count -/
def a299 : List Ann := [.no]
theorem e299 : f299 = evFun Tryz.prog 299 2 a299 t299 := by kernel_rfl
theorem o299 : FnOk Tryz.prog 299 f299 := .of hmO (show enters Tryz.prog 299 = true by kernel_rfl) e299 (.cons o99 (.nil))

/- (*concord/pack.Reader).Text -/
def a243 : List Ann := [.no, .no]
theorem e243 : f243 = evFun Tryz.prog 243 2 a243 t243 := by kernel_rfl
theorem o243 : FnOk Tryz.prog 243 f243 := .of hmO (show enters Tryz.prog 243 = true by kernel_rfl) e243 (.cons o299 (.nil))

/- concord/cmd.Get -/
def a247 : List Ann := [.join [(.normal, [])], .no, .join [(.normal, [])], .join [(.normal, [])], .join [(.normal, [])], .join [(.normal, [])], .no]
theorem e247 : f247 = evFun Tryz.prog 247 1 a247 t247 := by kernel_rfl
theorem o247 : FnOk Tryz.prog 247 f247 := .of hmO (show enters Tryz.prog 247 = true by kernel_rfl) e247 (.cons o48 (.cons o99 (.cons o169 (.cons o243 (.nil)))))

/- concord/deps.Get -/
def a248 : List Ann := [.no, .loop [8] [((.exit 0), [])], .no, .no, .join [(.normal, [])], .no]
theorem e248 : f248 = evFun Tryz.prog 248 1 a248 t248 := by kernel_rfl
theorem o248 : FnOk Tryz.prog 248 f248 := .of hmO (show enters Tryz.prog 248 = true by kernel_rfl) e248 (.cons o99 (.cons o101 (.cons o169 (.nil))))

/- concord/letter.GetCell -/
def a183 : List Ann := [.join [(.normal, [])], .join [(.normal, [])], .no]
theorem e183 : f183 = evFun Tryz.prog 183 1 a183 t183 := by kernel_rfl
theorem o183 : FnOk Tryz.prog 183 f183 := .of hmO (show enters Tryz.prog 183 = true by kernel_rfl) e183 (.cons o99 (.cons o135 (.cons o169 (.cons o242 (.cons o246 (.cons o247 (.cons o248 (.nil))))))))

/- concord/log.Replay -/
def a105 : List Ann := [.no, .no]
theorem e105 : f105 = evFun Tryz.prog 105 1 a105 t105 := by kernel_rfl
theorem o105 : FnOk Tryz.prog 105 f105 := .of hmO (show enters Tryz.prog 105 = true by kernel_rfl) e105 (.cons o98 (.cons o99 (.cons o100 (.cons o133 (.cons o183 (.nil))))))

/- (*concord/log.Log).Gone -/
def a139 : List Ann := []
theorem e139 : f139 = evFun Tryz.prog 139 2 a139 t139 := by kernel_rfl
theorem o139 : FnOk Tryz.prog 139 f139 := .of hmO (show enters Tryz.prog 139 = true by kernel_rfl) e139 (.cons o133 (.nil))

/- concord/log.may -/
def a184 : List Ann := [.no, .no]
theorem e184 : f184 = evFun Tryz.prog 184 2 a184 t184 := by kernel_rfl
theorem o184 : FnOk Tryz.prog 184 f184 := .of hmO (show enters Tryz.prog 184 = true by kernel_rfl) e184 (.cons o209 (.nil))

/- (*concord/log.Log).Set -/
def a106 : List Ann := [.no, .no]
theorem e106 : f106 = evFun Tryz.prog 106 3 a106 t106 := by kernel_rfl
theorem o106 : FnOk Tryz.prog 106 f106 := .of hmO (show enters Tryz.prog 106 = true by kernel_rfl) e106 (.cons o133 (.cons o135 (.cons o139 (.cons o184 (.nil)))))

/- (*concord/interf.Index).Note -/
def a185 : List Ann := [.no]
theorem e185 : f185 = evFun Tryz.prog 185 4 a185 t185 := by kernel_rfl
theorem o185 : FnOk Tryz.prog 185 f185 := .of hmO (show enters Tryz.prog 185 = true by kernel_rfl) e185 (.cons o48 (.cons o133 (.nil)))

/- (*concord/core.Core).note -/
def a107 : List Ann := [.no]
theorem e107 : f107 = evFun Tryz.prog 107 3 a107 t107 := by kernel_rfl
theorem o107 : FnOk Tryz.prog 107 f107 := .of hmO (show enters Tryz.prog 107 = true by kernel_rfl) e107 (.cons o185 (.nil))

/- concord/core.New -/
def a40 : List Ann := [.no, .no, .loop [49] [((.exit 0), [])], .no, .no, .join [(.normal, [])]]
theorem e40 : f40 = evFun Tryz.prog 40 4 a40 t40 := by kernel_rfl
theorem o40 : FnOk Tryz.prog 40 f40 := .of hmO (show enters Tryz.prog 40 = true by kernel_rfl) e40 (.cons o35 (.cons o101 (.cons o102 (.cons o103 (.cons o104 (.cons o105 (.cons o106 (.cons o107 (.nil)))))))))

/- (*concord/wal.Wal).Where -/
def a41 : List Ann := []
theorem e41 : f41 = evFun Tryz.prog 41 1 a41 t41 := by kernel_rfl
theorem o41 : FnOk Tryz.prog 41 f41 := .of hmO (show enters Tryz.prog 41 = true by kernel_rfl) e41 (.nil)

/- concord/word.Put -/
def a186 : List Ann := [.no, .loop [2, 7, 17] [((.exit 0), [7])], .no, .no]
theorem e186 : f186 = evFun Tryz.prog 186 3 a186 t186 := by kernel_rfl
theorem o186 : FnOk Tryz.prog 186 f186 := .of hmO (show enters Tryz.prog 186 = true by kernel_rfl) e186 (.nil)

/- concord/frame.Put -/
def a109 : List Ann := [.no]
theorem e109 : f109 = evFun Tryz.prog 109 2 a109 t109 := by kernel_rfl
theorem o109 : FnOk Tryz.prog 109 f109 := .of hmO (show enters Tryz.prog 109 = true by kernel_rfl) e109 (.cons o168 (.cons o186 (.nil)))

/- concord/wal.frames -/
def a108 : List Ann := [.no, .loop [0, 10] [((.exit 0), [0]), (.ret, [4, 5])], .no, .no, .no]
theorem e108 : f108 = evFun Tryz.prog 108 2 a108 t108 := by kernel_rfl
theorem o108 : FnOk Tryz.prog 108 f108 := .of hmO (show enters Tryz.prog 108 = true by kernel_rfl) e108 (.cons o109 (.nil))

/- concord/word.Zig -/
def a250 : List Ann := []
theorem e250 : f250 = evFun Tryz.prog 250 1 a250 t250 := by kernel_rfl
theorem o250 : FnOk Tryz.prog 250 f250 := .of hmO (show enters Tryz.prog 250 = true by kernel_rfl) e250 (.nil)

/- concord/pack.num -/
def a187 : List Ann := [.no, .loop [0, 5] [((.exit 0), [0, 5])], .no, .no]
theorem e187 : f187 = evFun Tryz.prog 187 2 a187 t187 := by kernel_rfl
theorem o187 : FnOk Tryz.prog 187 f187 := .of hmO (show enters Tryz.prog 187 = true by kernel_rfl) e187 (.cons o250 (.nil))

/- concord/pack.Num -/
def a110 : List Ann := []
theorem e110 : f110 = evFun Tryz.prog 110 2 a110 t110 := by kernel_rfl
theorem o110 : FnOk Tryz.prog 110 f110 := .of hmO (show enters Tryz.prog 110 = true by kernel_rfl) e110 (.cons o179 (.cons o187 (.nil)))

/- concord/disk.may -/
def a251 : List Ann := [.no, .no, .loop [13] [((.exit 0), []), (.ret, [2])], .no, .no, .no]
theorem e251 : f251 = evFun Tryz.prog 251 1 a251 t251 := by kernel_rfl
theorem o251 : FnOk Tryz.prog 251 f251 := .of hmO (show enters Tryz.prog 251 = true by kernel_rfl) e251 (.nil)

/- (*concord/disk.Disk).Total -/
def a301 : List Ann := [.no, .loop [3, 11] [((.exit 0), [3])], .no, .no]
theorem e301 : f301 = evFun Tryz.prog 301 1 a301 t301 := by kernel_rfl
theorem o301 : FnOk Tryz.prog 301 f301 := .of hmO (show enters Tryz.prog 301 = true by kernel_rfl) e301 (.nil)

/- (*concord/disk.Disk).Room -/
def a252 : List Ann := []
theorem e252 : f252 = evFun Tryz.prog 252 1 a252 t252 := by kernel_rfl
theorem o252 : FnOk Tryz.prog 252 f252 := .of hmO (show enters Tryz.prog 252 = true by kernel_rfl) e252 (.cons o301 (.nil))

/- slices.Insert[[]concord/disk.file,concord/disk.file] -/
def a253 : List Ann := [.no, .no, .no, .no]
theorem e253 : f253 = evFun Tryz.prog 253 3 a253 t253 := by kernel_rfl
theorem o253 : FnOk Tryz.prog 253 f253 := .of hmO (show enters Tryz.prog 253 = true by kernel_rfl) e253 (.nil)

/- slices.Concat[[]byte,byte] -/
def a254 : List Ann := [.no, .loop [3, 11] [((.exit 0), [3])], .no, .no, .join [(.normal, [])], .no, .loop [6, 27] [((.exit 2), [6])], .no, .no]
theorem e254 : f254 = evFun Tryz.prog 254 1 a254 t254 := by kernel_rfl
theorem o254 : FnOk Tryz.prog 254 f254 := .of hmO (show enters Tryz.prog 254 = true by kernel_rfl) e254 (.cons o304 (.nil))

/- (*concord/disk.Disk).Append -/
def a188 : List Ann := [.no, .no, .no, .no, .no, .join [(.normal, [])]]
theorem e188 : f188 = evFun Tryz.prog 188 3 a188 t188 := by kernel_rfl
theorem o188 : FnOk Tryz.prog 188 f188 := .of hmO (show enters Tryz.prog 188 = true by kernel_rfl) e188 (.cons o166 (.cons o174 (.cons o251 (.cons o252 (.cons o253 (.cons o254 (.nil)))))))

/- (*concord/wal.Wal).write -/
def a111 : List Ann := [.no, .join [(.normal, [7])]]
theorem e111 : f111 = evFun Tryz.prog 111 3 a111 t111 := by kernel_rfl
theorem o111 : FnOk Tryz.prog 111 f111 := .of hmO (show enters Tryz.prog 111 = true by kernel_rfl) e111 (.cons o95 (.cons o97 (.cons o188 (.nil))))

/- (*concord/wal.Wal).Anew -/
def a42 : List Ann := [.no, .no, .no, .no, .no, .loop [9] [((.exit 0), []), (.ret, [4])], .no, .no, .no]
theorem e42 : f42 = evFun Tryz.prog 42 2 a42 t42 := by kernel_rfl
theorem o42 : FnOk Tryz.prog 42 f42 := .of hmO (show enters Tryz.prog 42 = true by kernel_rfl) e42 (.cons o108 (.cons o109 (.cons o110 (.cons o111 (.nil)))))

/- concord/node.cutRecord -/
def a43 : List Ann := [.no, .loop [3, 8] [((.exit 0), [3])], .no, .no]
theorem e43 : f43 = evFun Tryz.prog 43 1 a43 t43 := by kernel_rfl
theorem o43 : FnOk Tryz.prog 43 f43 := .of hmO (show enters Tryz.prog 43 = true by kernel_rfl) e43 (.cons o110 (.nil))

/- (*concord/front.Fronts).Hear -/
def a44 : List Ann := [.no, .no, .loop [26] [((.exit 0), [])], .no, .no]
theorem e44 : f44 = evFun Tryz.prog 44 3 a44 t44 := by kernel_rfl
theorem o44 : FnOk Tryz.prog 44 f44 := .of hmO (show enters Tryz.prog 44 = true by kernel_rfl) e44 (.cons o101 (.nil))

/- (*concord/core.Core).Drain -/
def a189 : List Ann := []
theorem e189 : f189 = evFun Tryz.prog 189 1 a189 t189 := by kernel_rfl
theorem o189 : FnOk Tryz.prog 189 f189 := .of hmO (show enters Tryz.prog 189 = true by kernel_rfl) e189 (.nil)

/- concord/node.cellRecord -/
def a190 : List Ann := []
theorem e190 : f190 = evFun Tryz.prog 190 1 a190 t190 := by kernel_rfl
theorem o190 : FnOk Tryz.prog 190 f190 := .of hmO (show enters Tryz.prog 190 = true by kernel_rfl) e190 (.nil)

/- (*concord/wal.Wal).Add -/
def a191 : List Ann := [.no, .no, .no, .no, .join [(.normal, [])], .no]
theorem e191 : f191 = evFun Tryz.prog 191 2 a191 t191 := by kernel_rfl
theorem o191 : FnOk Tryz.prog 191 f191 := .of hmO (show enters Tryz.prog 191 = true by kernel_rfl) e191 (.cons o89 (.cons o95 (.cons o108 (.cons o111 (.nil)))))

/- (*concord/node.Node).drain -/
def a112 : List Ann := [.no, .loop [17] [((.exit 0), [])], .no, .no, .no]
theorem e112 : f112 = evFun Tryz.prog 112 1 a112 t112 := by kernel_rfl
theorem o112 : FnOk Tryz.prog 112 f112 := .of hmO (show enters Tryz.prog 112 = true by kernel_rfl) e112 (.cons o189 (.cons o190 (.cons o191 (.nil))))

/- concord/inst.New -/
def a305 : List Ann := [.no, .loop [11] [((.exit 0), [])], .no, .no]
theorem e305 : f305 = evFun Tryz.prog 305 1 a305 t305 := by kernel_rfl
theorem o305 : FnOk Tryz.prog 305 f305 := .of hmO (show enters Tryz.prog 305 = true by kernel_rfl) e305 (.nil)

/- (*concord/exec.plan).beyond -/
def a306 : List Ann := [.no, .loop [] [((.exit 0), []), (.ret, [4])], .no, .no, .no]
theorem e306 : f306 = evFun Tryz.prog 306 2 a306 t306 := by kernel_rfl
theorem o306 : FnOk Tryz.prog 306 f306 := .of hmO (show enters Tryz.prog 306 = true by kernel_rfl) e306 (.nil)

/- concord/exec.upto -/
def a348 : List Ann := [.no]
theorem e348 : f348 = evFun Tryz.prog 348 3 a348 t348 := by kernel_rfl
theorem o348 : FnOk Tryz.prog 348 f348 := .of hmO (show enters Tryz.prog 348 = true by kernel_rfl) e348 (.nil)

/- (*concord/exec.plan).hangs -/
def a308 : List Ann := [.no, .loop [7, 8] [((.exit 0), [7]), (.ret, [4])], .no, .no, .no, .no, .loop [7, 41] [((.exit 2), [7]), (.ret, [4])], .no, .no, .no, .loop [7, 13] [((.exit 4), [7]), (.ret, [4])], .no, .no, .no, .join [(.normal, [7])]]
theorem e308 : f308 = evFun Tryz.prog 308 2 a308 t308 := by kernel_rfl
theorem o308 : FnOk Tryz.prog 308 f308 := .of hmO (show enters Tryz.prog 308 = true by kernel_rfl) e308 (.cons o305 (.cons o348 (.nil)))

/- slices.insertionSortCmpFunc[concord/api.Inst] -/
def a359 : List Ann := [.no, .loop [8] [((.exit 0), [])], .no, .no, .no, .loop [9] [((.exit 2), [])], .no, .no]
theorem e359 : f359 = evFun Tryz.prog 359 4 a359 t359 := by kernel_rfl
theorem o359 : FnOk Tryz.prog 359 f359 := .of hmO (show enters Tryz.prog 359 = true by kernel_rfl) e359 (.nil)

/- slices.pdqsortCmpFunc[concord/api.Inst] -/
def a323 : List Ann := [.no, .loop [1, 2, 3, 10, 11] [(.ret, [])], .no, .no, .no, .join [(.normal, [3])], .join [(.normal, [13, 14])], .join [(.ret, []), (.normal, [])], .no, .no, .no]
theorem e323 : f323 = evFun Tryz.prog 323 5 a323 t323 := by kernel_rfl
theorem o323 : FnOk Tryz.prog 323 f323 := .of hmO (show enters Tryz.prog 323 = true by kernel_rfl) e323 (.cons o359 (.nil))

/- math/bits.Len64 -/
def a332 : List Ann := [.join [(.normal, [0, 2])], .join [(.normal, [0, 2])], .join [(.normal, [0, 2])]]
theorem e332 : f332 = evFun Tryz.prog 332 1 a332 t332 := by kernel_rfl
theorem o332 : FnOk Tryz.prog 332 f332 := .of hmO (show enters Tryz.prog 332 = true by kernel_rfl) e332 (.nil)

/- math/bits.Len -/
def a324 : List Ann := [.no]
theorem e324 : f324 = evFun Tryz.prog 324 1 a324 t324 := by kernel_rfl
theorem o324 : FnOk Tryz.prog 324 f324 := .of hmO (show enters Tryz.prog 324 = true by kernel_rfl) e324 (.cons o332 (.nil))

/- slices.SortFunc[[]concord/api.Inst,concord/api.Inst] -/
def a270 : List Ann := []
theorem e270 : f270 = evFun Tryz.prog 270 2 a270 t270 := by kernel_rfl
theorem o270 : FnOk Tryz.prog 270 f270 := .of hmO (show enters Tryz.prog 270 = true by kernel_rfl) e270 (.cons o323 (.cons o324 (.nil)))

/- (*concord/graph.walk).come -/
def a392 : List Ann := []
theorem e392 : f392 = evFun Tryz.prog 392 2 a392 t392 := by kernel_rfl
theorem o392 : FnOk Tryz.prog 392 f392 := .of hmO (show enters Tryz.prog 392 = true by kernel_rfl) e392 (.nil)

/- (*concord/graph.walk).leave -/
def a393 : List Ann := [.no, .no, .loop [] [((.exit 0), [])], .no, .no]
theorem e393 : f393 = evFun Tryz.prog 393 2 a393 t393 := by kernel_rfl
theorem o393 : FnOk Tryz.prog 393 f393 := .of hmO (show enters Tryz.prog 393 = true by kernel_rfl) e393 (.nil)

/- (*concord/graph.walk).from -/
def a377 : List Ann := [.no, .loop [4] [((.exit 0), [])], .no, .no, .no, .no, .no, .no, .no, .no]
theorem e377 : f377 = evFun Tryz.prog 377 2 a377 t377 := by kernel_rfl
theorem o377 : FnOk Tryz.prog 377 f377 := .of hmO (show enters Tryz.prog 377 = true by kernel_rfl) e377 (.cons o392 (.cons o393 (.nil)))

/- concord/graph.order -/
def a378 : List Ann := [.no, .loop [27] [((.exit 0), [])], .no, .no, .no, .loop [34] [((.exit 2), [])], .no, .no, .join [(.normal, [])], .no, .loop [14] [((.exit 4), [14])], .no, .no, .no, .loop [15, 97] [((.exit 6), [15])], .no, .no, .join [(.normal, [15])], .no, .loop [148] [((.exit 8), [])], .no, .no]
theorem e378 : f378 = evFun Tryz.prog 378 3 a378 t378 := by kernel_rfl
theorem o378 : FnOk Tryz.prog 378 f378 := .of hmO (show enters Tryz.prog 378 = true by kernel_rfl) e378 (.nil)

/- concord/graph.Parts -/
def a350 : List Ann := [.no, .no, .loop [26] [((.exit 0), [])], .no, .no, .join [(.normal, [])], .no, .loop [51] [((.exit 2), [])], .no, .no]
theorem e350 : f350 = evFun Tryz.prog 350 1 a350 t350 := by kernel_rfl
theorem o350 : FnOk Tryz.prog 350 f350 := .of hmO (show enters Tryz.prog 350 = true by kernel_rfl) e350 (.cons o377 (.cons o378 (.nil)))

/- (*concord/exec.plan).edges -/
def a351 : List Ann := [.no, .loop [16] [((.exit 0), [])], .no, .no, .no, .loop [31] [((.exit 2), [])], .no, .no, .join [(.normal, [])]]
theorem e351 : f351 = evFun Tryz.prog 351 2 a351 t351 := by kernel_rfl
theorem o351 : FnOk Tryz.prog 351 f351 := .of hmO (show enters Tryz.prog 351 = true by kernel_rfl) e351 (.nil)

/- slices.insertionSortCmpFunc[int] -/
def a394 : List Ann := [.no, .loop [8] [((.exit 0), [])], .no, .no, .no, .loop [9] [((.exit 2), [])], .no, .no]
theorem e394 : f394 = evFun Tryz.prog 394 4 a394 t394 := by kernel_rfl
theorem o394 : FnOk Tryz.prog 394 f394 := .of hmO (show enters Tryz.prog 394 = true by kernel_rfl) e394 (.nil)
end Go.Cn
