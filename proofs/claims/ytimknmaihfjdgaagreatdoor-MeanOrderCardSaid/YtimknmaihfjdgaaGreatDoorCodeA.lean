/- The compiled form of the program's functions, part 1 of 3: definitions alone, printed by a program. -/
import Derived.Test.YtimknmaihfjdgaaGreatDoorVmB
namespace GoVm
def m3 : SlotMap := [(2, r0), (1, r1), (0, r2), (13, r3), (14, r4), (7, r5), (8, r6), (32, r7), (11, r8), (9, r9), (10, r10), (6, r11)]
def c3 : VFn :=
 VFn.mk [some r2, some r1, some r0] (.seq (.reg [.op (.P (.mv (.k (.bool false)))) false (some r11)])
 (.seq (.seq (.reg [.op (.C (.cf 11 [])) true none,
  .op (.P (.no (.st 0))) false (some r3)])
 (.cond (.sl r3) (.seq (.reg [.op (.P (.mv (.k (.bool false)))) false (some r11)])
 (.ret))
 (.skip)))
 (.seq (.reg [.op (.P (.mv (.k (.str 2 10281)))) false (some r5)])
 (.seq (.seq (.reg [.op (.P (.mv (.sl r0))) false (some r4)])
 (.cond (.sl r4) (.reg [.op (.P (.mv (.k (.str 9 2074498770265907946025)))) false (some r5)])
 (.skip)))
 (.seq (.reg [.el,
  .op (.P (.cat (.k (.str 104 12242586237508622019843181319941718857879078226226854544472601598638238126282602147374395860350702981022854490173306973197087624701564972874282331438719109030448182417407481056439438718946937555505128729365279825745047421210461837804734941005655063840)) (.sl r5))) true none,
  .op (.P (.cat (.st 0) (.k (.str 39 1056385237021932374603738257212343842161964927198687873377456319947131106923270798514078689595)))) true none,
  .op (.C (.cf 12 [(.st 0)])) true none,
  .op (.F (.al 30 [(.str 0 0), (.int .i64 0), .nils, .nils, .nils, .nils, .nils, .nils])) false (some r6),
  .op (.W (.st 8 (.sl r6) (.st 0))) false none])
 (.seq (.reg [.op (.R (.ld 8 true (.sl r6))) true none,
  .op (.C (.cf 14 [(.st 0)])) true none,
  .op (.P (.ifc 35 (.st 0))) true none,
  .el,
  .op (.P (.bld [(.int .i64 0), (.int .i64 0), (.str 0 0), .nils] [(0, 1, (.k (.int .i64 2))), (1, 1, (.sl r2))])) true none,
  .el,
  .op (.P (.bld [(.int .i64 0), (.int .i64 0), (.str 0 0), .nils] [(0, 1, (.k (.int .i64 2))), (1, 1, (.sl r1))])) true none,
  .op (.F (.bsl 39 4 2 [(.int .i64 0), (.int .i64 0), (.str 0 0), .nils, (.int .i64 0), (.int .i64 0), (.str 0 0), .nils] [(0, 4, (.st 1)), (4, 4, (.st 0))])) true none,
  .op (.C (.cf 13 [(.st 3), (.k (.str 1 65)), (.st 0), (.k .nils), (.k .nils)])) true none,
  .el,
  .op (.P (.ext 0 (.st 0))) true none,
  .op (.P (.ext 1 (.st 1))) true none,
  .op (.P (.mv (.st 1))) false (some r9),
  .op (.P (.mv (.st 0))) false (some r10)])
 (.seq (.reg [.el,
  .op (.P (.mv (.sl r2))) false (some r8)])
 (.seq (.seq (.reg [.op (.P (.mv (.sl r0))) false (some r7)])
 (.cond (.sl r7) (.reg [.el,
  .op (.P (.mv (.sl r1))) false (some r8)])
 (.skip)))
 (.seq (.reg [.el,
  .el,
  .op (.G (.sl r10) true (.P (.mv (.sl r9)))) true none,
  .op (.G (.sl r10) true (.P (.ln 1 (.st 0)))) true none,
  .op (.G (.sl r10) true (.P (.cmi .eql (.st 0) (.k (.int .i64 3))))) true none,
  .op (.P (.pick (.sl r10) (.st 0) (.k (.bool false)))) true none,
  .el,
  .op (.G (.st 0) true (.P (.mv (.sl r9)))) true none,
  .op (.G (.st 1) true (.P (.ia 8 (.st 0) (.k (.int .i64 0))))) true none,
  .op (.G (.st 2) true (.P (.fa 0 (.st 0)))) true none,
  .op (.G (.st 3) true (.R (.ld 1 false (.st 0)))) true none,
  .op (.G (.st 4) true (.P (.cmi .eql (.st 0) (.k (.int .i64 2))))) true none,
  .op (.P (.pick (.st 5) (.st 0) (.k (.bool false)))) true none,
  .el,
  .op (.G (.st 0) true (.P (.mv (.sl r9)))) true none,
  .op (.G (.st 1) true (.P (.ia 8 (.st 0) (.k (.int .i64 0))))) true none,
  .op (.G (.st 2) true (.P (.fa 1 (.st 0)))) true none,
  .op (.G (.st 3) true (.R (.ld 1 false (.st 0)))) true none,
  .op (.G (.st 4) true (.P (.mv (.sl r8)))) true none,
  .op (.G (.st 5) true (.P (.cmi .eql (.st 1) (.st 0)))) true none,
  .op (.P (.pick (.st 6) (.st 0) (.k (.bool false)))) true none,
  .el,
  .op (.G (.st 0) true (.P (.mv (.sl r9)))) true none,
  .op (.G (.st 1) true (.P (.ia 8 (.st 0) (.k (.int .i64 1))))) true none,
  .op (.G (.st 2) true (.P (.fa 0 (.st 0)))) true none,
  .op (.G (.st 3) true (.R (.ld 1 false (.st 0)))) true none,
  .op (.G (.st 4) true (.P (.cmi .eql (.st 0) (.k (.int .i64 2))))) true none,
  .op (.P (.pick (.st 5) (.st 0) (.k (.bool false)))) true none,
  .el,
  .op (.G (.st 0) true (.P (.mv (.sl r9)))) true none,
  .op (.G (.st 1) true (.P (.ia 8 (.st 0) (.k (.int .i64 1))))) true none,
  .op (.G (.st 2) true (.P (.fa 1 (.st 0)))) true none,
  .op (.G (.st 3) true (.R (.ld 1 false (.st 0)))) true none,
  .op (.G (.st 4) true (.P (.mv (.sl r8)))) true none,
  .op (.G (.st 5) true (.P (.cmi .eql (.st 1) (.st 0)))) true none,
  .op (.P (.pick (.st 6) (.st 0) (.k (.bool false)))) true none,
  .el,
  .op (.G (.st 0) true (.P (.mv (.sl r9)))) true none,
  .op (.G (.st 1) true (.P (.ia 8 (.st 0) (.k (.int .i64 2))))) true none,
  .op (.G (.st 2) true (.P (.fa 0 (.st 0)))) true none,
  .op (.G (.st 3) true (.R (.ld 1 false (.st 0)))) true none,
  .op (.G (.st 4) true (.P (.cmi .eql (.st 0) (.k (.int .i64 8))))) true none,
  .op (.P (.pick (.st 5) (.st 0) (.k (.bool false)))) true none,
  .op (.P (.mv (.st 0))) false (some r11)])
 (.ret))))))))))
  [.sl (.sl r11)]

def m4 : SlotMap := [(12, r0), (0, r1), (80, r2), (2, r3), (1, r4), (10, r5), (17, r6), (18, r7), (7, r8), (8, r9), (9, r10), (44, r11), (13, r12), (52, r13), (11, r14), (77, r15), (79, r16), (81, r17), (78, r18), (15, r19), (14, r20), (99, r21), (6, r22)]
def c4 : VFn :=
 VFn.mk [some r1, some r4, some r3] (.seq (.reg [.op (.P (.mv (.k (.bool false)))) false (some r22)])
 (.seq (.seq (.reg [.op (.C (.cf 11 [])) true none,
  .op (.P (.no (.st 0))) false (some r6)])
 (.cond (.sl r6) (.seq (.reg [.op (.P (.mv (.k (.bool false)))) false (some r22)])
 (.ret))
 (.skip)))
 (.seq (.reg [.op (.P (.mv (.k (.str 3 6385252)))) false (some r8)])
 (.seq (.seq (.reg [.op (.P (.mv (.sl r3))) false (some r7)])
 (.cond (.sl r7) (.reg [.op (.P (.mv (.k (.str 2 28530)))) false (some r8)])
 (.skip)))
 (.seq (.reg [.op (.P (.mv (.k (.fn 15 [] [])))) false (some r9)])
 (.seq (.reg [.el,
  .el,
  .op (.C (.cv (.sl r9) [(.sl r1)])) true none,
  .op (.P (.cat (.k (.str 138 92903482203120434362420965314421698389303265221929022237527599204077034561054304328739883141920649386853377583359226698448411769848112784657373495632380481022259759698543419770214152243081780536072395977901789794416520531627764570802171297924005154937923232733993816409715463156643394558263769608048755702256945446317920676731759648)) (.st 0))) true none,
  .op (.P (.cat (.st 0) (.k (.str 2 10528)))) true none,
  .el,
  .op (.P (.cat (.st 0) (.sl r8))) true none,
  .op (.P (.cat (.st 0) (.k (.str 6 35683262671904)))) true none,
  .el,
  .el,
  .op (.C (.cv (.sl r9) [(.sl r4)])) true none,
  .op (.P (.cat (.st 1) (.st 0))) true none,
  .op (.P (.cat (.st 0) (.k (.str 71 155338749558438827843132847347393323463090994385808945566128240064021464074939609436632754996215637863973189213177662793818103753982394006962081604668803339451762799421755)))) true none,
  .op (.C (.cf 12 [(.st 0)])) true none,
  .op (.F (.al 30 [(.str 0 0), (.int .i64 0), .nils, .nils, .nils, .nils, .nils, .nils])) false (some r10),
  .op (.W (.st 8 (.sl r10) (.st 0))) false none])
 (.seq (.reg [.op (.R (.ld 8 true (.sl r10))) true none,
  .op (.C (.cf 14 [(.st 0)])) true none,
  .op (.P (.ifc 35 (.st 0))) true none,
  .op (.C (.cf 13 [(.st 0), (.k (.str 1 65)), (.k .nils), (.k .nils), (.k .nils)])) true none,
  .el,
  .op (.P (.ext 0 (.st 0))) true none,
  .op (.P (.ext 1 (.st 1))) true none,
  .op (.P (.mv (.st 1))) false (some r5),
  .op (.P (.mv (.st 0))) false (some r14)])
 (.seq (.reg [.op (.F (.bsl 3 1 1 [(.int .i64 0)] [(0, 1, (.k (.int .i64 1)))])) true none,
  .op (.P (.mv (.st 0))) false (some r0)])
 (.seq (.reg [.el,
  .op (.P (.mv (.sl r1))) false (some r12)])
 (.seq (.seq (.reg [.el,
  .el,
  .op (.P (.cmb true (.sl r1) (.sl r3))) false (some r11)])
 (.cond (.sl r11) (.seq (.reg [.op (.P (.mv (.sl r0))) true none,
  .op (.F (.bsl 3 1 1 [(.int .i64 0)] [(0, 1, (.k (.int .i64 2)))])) true none,
  .op (.W (.app 3 1 (.st 1) (.st 0))) true none,
  .op (.P (.mv (.st 0))) false (some r0)])
 (.reg [.el,
  .op (.P (.mv (.sl r4))) false (some r12)]))
 (.skip)))
 (.seq (.reg [.op (.P (.mv (.sl r0))) true none,
  .op (.F (.bsl 3 1 2 [(.int .i64 0), (.int .i64 0)] [(0, 1, (.k (.int .i64 3))), (1, 1, (.k (.int .i64 4)))])) true none,
  .op (.W (.app 3 1 (.st 1) (.st 0))) true none,
  .op (.P (.mv (.st 0))) false (some r0)])
 (.seq (.seq (.reg [.op (.P (.mv (.sl r12))) false (some r13)])
 (.cond (.sl r13) (.reg [.op (.P (.mv (.sl r0))) true none,
  .op (.F (.bsl 3 1 1 [(.int .i64 0)] [(0, 1, (.k (.int .i64 5)))])) true none,
  .op (.W (.app 3 1 (.st 1) (.st 0))) true none,
  .op (.P (.mv (.st 0))) false (some r0)])
 (.reg [.op (.P (.mv (.sl r0))) true none,
  .op (.F (.bsl 3 1 1 [(.int .i64 0)] [(0, 1, (.k (.int .i64 6)))])) true none,
  .op (.W (.app 3 1 (.st 1) (.st 0))) true none,
  .op (.P (.mv (.st 0))) false (some r0)])))
 (.seq (.seq (.reg [.el,
  .op (.P (.no (.sl r14))) true none,
  .el,
  .op (.G (.st 0) false (.P (.mv (.sl r5)))) true none,
  .op (.G (.st 1) false (.P (.ln 1 (.st 0)))) true none,
  .op (.G (.st 2) false (.P (.mv (.sl r0)))) true none,
  .op (.G (.st 3) false (.P (.ln 1 (.st 0)))) true none,
  .op (.G (.st 4) false (.P (.ar .add (.st 0) (.k (.int .i64 1))))) true none,
  .op (.G (.st 5) false (.P (.cmi .neq (.st 3) (.st 0)))) true none,
  .op (.P (.pick (.st 6) (.k (.bool true)) (.st 0))) true none,
  .el,
  .op (.G (.st 0) false (.P (.mv (.sl r5)))) true none,
  .op (.G (.st 1) false (.P (.mv (.sl r0)))) true none,
  .op (.G (.st 2) false (.P (.ln 1 (.st 0)))) true none,
  .op (.G (.st 3) false (.P (.ia 8 (.st 2) (.st 0)))) true none,
  .op (.G (.st 4) false (.P (.fa 0 (.st 0)))) true none,
  .op (.G (.st 5) false (.R (.ld 1 false (.st 0)))) true none,
  .op (.G (.st 6) false (.P (.cmi .neq (.st 0) (.k (.int .i64 8))))) true none,
  .op (.P (.pick (.st 7) (.k (.bool true)) (.st 0))) false (some r15)])
 (.cond (.sl r15) (.seq (.reg [.op (.P (.mv (.k (.bool false)))) false (some r22)])
 (.ret))
 (.skip)))
 (.seq (.seq (.reg [.op (.P (.mv (.sl r0))) false (some r18),
  .op (.P (.ln 1 (.sl r18))) false (some r16),
  .op (.P (.mv (.k (.int .i64 0)))) false (some r2)])
 (.block 0 (.loop (.seq (.reg [.op (.P (.cmi .lss (.sl r2) (.sl r16))) false (some r17)])
 (.seq (.cond (.sl r17) (.skip)
 (.exit 0))
 (.seq (.block 1 (.seq (.reg [.el,
  .op (.P (.ia 1 (.sl r18) (.sl r2))) true none,
  .op (.R (.ld 1 false (.st 0))) true none,
  .op (.P (.mv (.sl r2))) false (some r20),
  .op (.P (.mv (.st 0))) false (some r19)])
 (.seq (.reg [.el,
  .el,
  .op (.P (.ia 8 (.sl r5) (.sl r20))) true none,
  .op (.P (.fa 0 (.st 0))) true none,
  .op (.R (.ld 1 false (.st 0))) true none,
  .op (.P (.cmi .neq (.st 0) (.k (.int .i64 2)))) true none,
  .el,
  .op (.G (.st 0) false (.P (.mv (.sl r5)))) true none,
  .op (.G (.st 1) false (.P (.mv (.sl r20)))) true none,
  .op (.G (.st 2) false (.P (.ia 8 (.st 1) (.st 0)))) true none,
  .op (.G (.st 3) false (.P (.fa 1 (.st 0)))) true none,
  .op (.G (.st 4) false (.R (.ld 1 false (.st 0)))) true none,
  .op (.G (.st 5) false (.P (.mv (.sl r19)))) true none,
  .op (.G (.st 6) false (.P (.cmi .neq (.st 1) (.st 0)))) true none,
  .op (.P (.pick (.st 7) (.k (.bool true)) (.st 0))) false (some r21)])
 (.cond (.sl r21) (.seq (.reg [.op (.P (.mv (.k (.bool false)))) false (some r22)])
 (.ret))
 (.skip)))))
 (.reg [.op (.P (.ar .add (.sl r2) (.k (.int .i64 1)))) true none,
  .op (.P (.mv (.st 0))) false (some r2)])))))))
 (.seq (.reg [.op (.P (.mv (.k (.bool true)))) false (some r22)])
 (.ret))))))))))))))))
  [.sl (.sl r22)]

def m5 : SlotMap := [(0, r0), (4, r1), (7, r2), (3, r3), (5, r4), (28, r5), (30, r6), (2, r7)]
def c5 : VFn :=
 VFn.mk [some r0] (.seq (.reg [.op (.P (.mv (.k (.bool false)))) false (some r7)])
 (.seq (.seq (.reg [.op (.C (.cf 11 [])) true none,
  .op (.P (.no (.st 0))) false (some r2)])
 (.cond (.sl r2) (.seq (.reg [.op (.P (.mv (.k (.bool false)))) false (some r7)])
 (.ret))
 (.skip)))
 (.seq (.reg [.op (.P (.mv (.sl r0))) true none,
  .op (.C (.cf 16 [(.st 0), (.k (.int .i64 80))])) true none,
  .op (.P (.mv (.st 0))) false (some r0)])
 (.seq (.reg [.op (.C (.cf 12 [(.k (.str 178 198440633577774237792159745037331409535169964055564349188237709379784934048096786144167714895300606578999228807200716786248833656860619803252775982058365802571706725483644439751959664810998089370812924865999393028750912348033569241420401477038768812233890582482443170670792404027224037467141968880304196405770778476404993852754893500836952031712782532669417028672482618143583441646265477565955746544455137192976572830455001852219))])) true none,
  .op (.F (.al 30 [(.str 0 0), (.int .i64 0), .nils, .nils, .nils, .nils, .nils, .nils])) false (some r3),
  .op (.W (.st 8 (.sl r3) (.st 0))) false none])
 (.seq (.reg [.op (.R (.ld 8 true (.sl r3))) true none,
  .op (.C (.cf 14 [(.st 0)])) true none,
  .op (.P (.ifc 35 (.st 0))) true none,
  .el,
  .op (.P (.bld [(.int .i64 0), (.int .i64 0), (.str 0 0), .nils] [(0, 1, (.k (.int .i64 2))), (1, 1, (.sl r0))])) true none,
  .op (.P (.bld [(.int .i64 0), (.int .i64 0), (.str 0 0), .nils] [(0, 1, (.k (.int .i64 2))), (1, 1, (.k (.int .i64 2)))])) true none,
  .op (.F (.bsl 39 4 2 [(.int .i64 0), (.int .i64 0), (.str 0 0), .nils, (.int .i64 0), (.int .i64 0), (.str 0 0), .nils] [(0, 4, (.st 1)), (4, 4, (.st 0))])) true none,
  .op (.C (.cf 13 [(.st 3), (.k (.str 1 65)), (.st 0), (.k .nils), (.k .nils)])) true none,
  .el,
  .op (.P (.ext 0 (.st 0))) true none,
  .op (.P (.ext 1 (.st 1))) true none,
  .op (.P (.mv (.st 1))) false (some r1),
  .op (.P (.mv (.st 0))) false (some r4)])
 (.seq (.seq (.reg [.el,
  .op (.P (.no (.sl r4))) true none,
  .el,
  .op (.G (.st 0) false (.P (.mv (.sl r1)))) true none,
  .op (.G (.st 1) false (.P (.ln 1 (.st 0)))) true none,
  .op (.G (.st 2) false (.P (.cmi .eql (.st 0) (.k (.int .i64 0))))) true none,
  .op (.P (.pick (.st 3) (.k (.bool true)) (.st 0))) false (some r5)])
 (.cond (.sl r5) (.seq (.reg [.op (.P (.mv (.k (.bool false)))) false (some r7)])
 (.ret))
 (.skip)))
 (.seq (.seq (.reg [.el,
  .op (.P (.cmi .gtr (.sl r0) (.k (.int .i64 59)))) false (some r6)])
 (.cond (.sl r6) (.seq (.reg [.el,
  .op (.P (.ln 1 (.sl r1))) true none,
  .op (.P (.cmi .eql (.st 0) (.k (.int .i64 1)))) true none,
  .el,
  .op (.G (.st 0) true (.P (.mv (.sl r1)))) true none,
  .op (.G (.st 1) true (.P (.ia 8 (.st 0) (.k (.int .i64 0))))) true none,
  .op (.G (.st 2) true (.P (.fa 0 (.st 0)))) true none,
  .op (.G (.st 3) true (.R (.ld 1 false (.st 0)))) true none,
  .op (.G (.st 4) true (.P (.cmi .eql (.st 0) (.k (.int .i64 9))))) true none,
  .op (.P (.pick (.st 5) (.st 0) (.k (.bool false)))) true none,
  .el,
  .op (.G (.st 0) true (.P (.mv (.sl r1)))) true none,
  .op (.G (.st 1) true (.P (.ia 8 (.st 0) (.k (.int .i64 0))))) true none,
  .op (.G (.st 2) true (.P (.fa 2 (.st 0)))) true none,
  .op (.G (.st 3) true (.R (.ld 1 false (.st 0)))) true none,
  .op (.G (.st 4) true (.P (.cms .eql (.st 0) (.k (.str 4 1684366704))))) true none,
  .op (.P (.pick (.st 5) (.st 0) (.k (.bool false)))) true none,
  .op (.P (.mv (.st 0))) false (some r7)])
 (.ret))
 (.skip)))
 (.seq (.reg [.el,
  .op (.P (.ln 1 (.sl r1))) true none,
  .op (.P (.cmi .eql (.st 0) (.k (.int .i64 4)))) true none,
  .el,
  .op (.G (.st 0) true (.P (.mv (.sl r1)))) true none,
  .op (.G (.st 1) true (.P (.ia 8 (.st 0) (.k (.int .i64 0))))) true none,
  .op (.G (.st 2) true (.P (.fa 1 (.st 0)))) true none,
  .op (.G (.st 3) true (.R (.ld 1 false (.st 0)))) true none,
  .op (.G (.st 4) true (.P (.mv (.sl r0)))) true none,
  .op (.G (.st 5) true (.P (.cmi .eql (.st 1) (.st 0)))) true none,
  .op (.P (.pick (.st 6) (.st 0) (.k (.bool false)))) true none,
  .el,
  .op (.G (.st 0) true (.P (.mv (.sl r1)))) true none,
  .op (.G (.st 1) true (.P (.ia 8 (.st 0) (.k (.int .i64 1))))) true none,
  .op (.G (.st 2) true (.P (.fa 1 (.st 0)))) true none,
  .op (.G (.st 3) true (.R (.ld 1 false (.st 0)))) true none,
  .op (.G (.st 4) true (.P (.mv (.sl r0)))) true none,
  .op (.G (.st 5) true (.P (.cmi .eql (.st 1) (.st 0)))) true none,
  .op (.P (.pick (.st 6) (.st 0) (.k (.bool false)))) true none,
  .el,
  .op (.G (.st 0) true (.P (.mv (.sl r1)))) true none,
  .op (.G (.st 1) true (.P (.ia 8 (.st 0) (.k (.int .i64 2))))) true none,
  .op (.G (.st 2) true (.P (.fa 1 (.st 0)))) true none,
  .op (.G (.st 3) true (.R (.ld 1 false (.st 0)))) true none,
  .op (.G (.st 4) true (.P (.mv (.sl r0)))) true none,
  .op (.G (.st 5) true (.P (.cmi .eql (.st 1) (.st 0)))) true none,
  .op (.P (.pick (.st 6) (.st 0) (.k (.bool false)))) true none,
  .el,
  .op (.G (.st 0) true (.P (.mv (.sl r1)))) true none,
  .op (.G (.st 1) true (.P (.ia 8 (.st 0) (.k (.int .i64 3))))) true none,
  .op (.G (.st 2) true (.P (.fa 0 (.st 0)))) true none,
  .op (.G (.st 3) true (.R (.ld 1 false (.st 0)))) true none,
  .op (.G (.st 4) true (.P (.cmi .eql (.st 0) (.k (.int .i64 8))))) true none,
  .op (.P (.pick (.st 5) (.st 0) (.k (.bool false)))) true none,
  .op (.P (.mv (.st 0))) false (some r7)])
 (.ret)))))))))
  [.sl (.sl r7)]

def m6 : SlotMap := [(0, r0), (56, r1), (1, r2), (9, r3), (7, r4), (13, r5), (15, r6), (6, r7), (5, r8), (35, r9), (8, r10), (53, r11), (55, r12), (57, r13), (54, r14), (11, r15), (10, r16), (75, r17), (4, r18)]
def c6 : VFn :=
 VFn.mk [some r0, some r2] (.seq (.reg [.op (.P (.mv (.k (.bool false)))) false (some r18)])
 (.seq (.seq (.reg [.op (.C (.cf 11 [])) true none,
  .op (.P (.no (.st 0))) false (some r5)])
 (.cond (.sl r5) (.seq (.reg [.op (.P (.mv (.k (.bool false)))) false (some r18)])
 (.ret))
 (.skip)))
 (.seq (.reg [.op (.C (.cf 12 [(.k (.str 468 48665427795316452161037244379952784133219876857463814894193021335912530183883387525828637785130316253886700817764817846952074985958817198248240950693751016428595917827299022025546733582226663038310389284557659388991402374893626589345232873683397821953593323007249635716308313688416335271670997278437349182249017995777517485720823928602955515223009804363315742013242426467196517721302880375398978467433748687757519227365567504292483343669611839683661066829984386462058964272915756890737352703422843382907564357315231758807442156403645395709311582618974451533260195195976806346299118224076279045437855658834324105369251231174384964168065226499161716644506537042148821507817397678239390097385127380242410974244542511691508319827094072472869681529733748164323701785957752916372062124377835311931359346545240099197616625424905237619702412251814915252565356604815693878141903881209432612178188924929522979784999450929243782189880239726089827796511029651692182859124040811590237856816563297021836759947329829931931740888338693366035330660338978580577879952121496902244153438272097269295079657083415287672291684338138308477145636743483))])) true none,
  .op (.F (.al 30 [(.str 0 0), (.int .i64 0), .nils, .nils, .nils, .nils, .nils, .nils])) false (some r8),
  .op (.W (.st 8 (.sl r8) (.st 0))) false none])
 (.seq (.reg [.op (.P (.mv (.k (.int .i64 0)))) false (some r7)])
 (.seq (.seq (.reg [.op (.P (.mv (.sl r2))) false (some r6)])
 (.cond (.sl r6) (.reg [.op (.P (.mv (.k (.int .i64 1)))) false (some r7)])
 (.skip)))
 (.seq (.reg [.op (.R (.ld 8 true (.sl r8))) true none,
  .op (.C (.cf 14 [(.st 0)])) true none,
  .op (.P (.ifc 35 (.st 0))) true none,
  .el,
  .op (.P (.bld [(.int .i64 0), (.int .i64 0), (.str 0 0), .nils] [(0, 1, (.k (.int .i64 2))), (1, 1, (.sl r0))])) true none,
  .el,
  .op (.P (.bld [(.int .i64 0), (.int .i64 0), (.str 0 0), .nils] [(0, 1, (.k (.int .i64 3))), (1, 1, (.sl r7))])) true none,
  .op (.F (.bsl 39 4 2 [(.int .i64 0), (.int .i64 0), (.str 0 0), .nils, (.int .i64 0), (.int .i64 0), (.str 0 0), .nils] [(0, 4, (.st 1)), (4, 4, (.st 0))])) true none,
  .op (.C (.cf 13 [(.st 3), (.k (.str 1 65)), (.st 0), (.k .nils), (.k .nils)])) true none,
  .el,
  .op (.P (.ext 0 (.st 0))) true none,
  .op (.P (.ext 1 (.st 1))) true none,
  .op (.P (.mv (.st 1))) false (some r4),
  .op (.P (.mv (.st 0))) false (some r10)])
 (.seq (.reg [.el,
  .op (.P (.ar .add (.sl r0) (.k (.int .i64 2)))) true none,
  .el,
  .op (.P (.ar .add (.sl r0) (.k (.int .i64 2)))) true none,
  .el,
  .op (.P (.ar .add (.k (.int .i64 7)) (.sl r0))) true none,
  .op (.F (.bsl 3 1 4 [(.int .i64 0), (.int .i64 0), (.int .i64 0), (.int .i64 0)] [(0, 1, (.st 2)), (1, 1, (.k (.int .i64 300))), (2, 1, (.st 1)), (3, 1, (.st 0))])) true none,
  .op (.P (.mv (.st 0))) false (some r3)])
 (.seq (.seq (.reg [.op (.P (.mv (.sl r2))) false (some r9)])
 (.cond (.sl r9) (.reg [.el,
  .el,
  .op (.P (.ar .mul (.k (.int .i64 100)) (.sl r0))) true none,
  .op (.P (.ia 1 (.sl r3) (.k (.int .i64 3)))) true none,
  .op (.W (.st 1 (.st 0) (.st 1))) false none])
 (.skip)))
 (.seq (.seq (.reg [.el,
  .op (.P (.no (.sl r10))) true none,
  .el,
  .op (.G (.st 0) false (.P (.mv (.sl r4)))) true none,
  .op (.G (.st 1) false (.P (.ln 1 (.st 0)))) true none,
  .op (.G (.st 2) false (.P (.cmi .neq (.st 0) (.k (.int .i64 5))))) true none,
  .op (.P (.pick (.st 3) (.k (.bool true)) (.st 0))) true none,
  .el,
  .op (.G (.st 0) false (.P (.mv (.sl r4)))) true none,
  .op (.G (.st 1) false (.P (.ia 8 (.st 0) (.k (.int .i64 4))))) true none,
  .op (.G (.st 2) false (.P (.fa 0 (.st 0)))) true none,
  .op (.G (.st 3) false (.R (.ld 1 false (.st 0)))) true none,
  .op (.G (.st 4) false (.P (.cmi .neq (.st 0) (.k (.int .i64 8))))) true none,
  .op (.P (.pick (.st 5) (.k (.bool true)) (.st 0))) false (some r11)])
 (.cond (.sl r11) (.seq (.reg [.op (.P (.mv (.k (.bool false)))) false (some r18)])
 (.ret))
 (.skip)))
 (.seq (.seq (.reg [.op (.P (.mv (.sl r3))) false (some r14),
  .op (.P (.ln 1 (.sl r14))) false (some r12),
  .op (.P (.mv (.k (.int .i64 0)))) false (some r1)])
 (.block 0 (.loop (.seq (.reg [.op (.P (.cmi .lss (.sl r1) (.sl r12))) false (some r13)])
 (.seq (.cond (.sl r13) (.skip)
 (.exit 0))
 (.seq (.block 1 (.seq (.reg [.el,
  .op (.P (.ia 1 (.sl r14) (.sl r1))) true none,
  .op (.R (.ld 1 false (.st 0))) true none,
  .op (.P (.mv (.sl r1))) false (some r16),
  .op (.P (.mv (.st 0))) false (some r15)])
 (.seq (.reg [.el,
  .el,
  .op (.P (.ia 8 (.sl r4) (.sl r16))) true none,
  .op (.P (.fa 0 (.st 0))) true none,
  .op (.R (.ld 1 false (.st 0))) true none,
  .op (.P (.cmi .neq (.st 0) (.k (.int .i64 2)))) true none,
  .el,
  .op (.G (.st 0) false (.P (.mv (.sl r4)))) true none,
  .op (.G (.st 1) false (.P (.mv (.sl r16)))) true none,
  .op (.G (.st 2) false (.P (.ia 8 (.st 1) (.st 0)))) true none,
  .op (.G (.st 3) false (.P (.fa 1 (.st 0)))) true none,
  .op (.G (.st 4) false (.R (.ld 1 false (.st 0)))) true none,
  .op (.G (.st 5) false (.P (.mv (.sl r15)))) true none,
  .op (.G (.st 6) false (.P (.cmi .neq (.st 1) (.st 0)))) true none,
  .op (.P (.pick (.st 7) (.k (.bool true)) (.st 0))) false (some r17)])
 (.cond (.sl r17) (.seq (.reg [.op (.P (.mv (.k (.bool false)))) false (some r18)])
 (.ret))
 (.skip)))))
 (.reg [.op (.P (.ar .add (.sl r1) (.k (.int .i64 1)))) true none,
  .op (.P (.mv (.st 0))) false (some r1)])))))))
 (.seq (.reg [.op (.P (.mv (.k (.bool true)))) false (some r18)])
 (.ret))))))))))))
  [.sl (.sl r18)]

def m7 : SlotMap := [(6, r0), (5, r1), (2, r2), (1, r3), (0, r4), (19, r5), (21, r6), (3, r7), (4, r8), (15, r9), (13, r10), (16, r11), (14, r12), (12, r13)]
def c7 : VFn :=
 VFn.mk [some r4, some r3, some r2, some r7, some r8, some r1] (.seq (.reg [.op (.F (.bx 30 (.sl r4))) false (some r0),
  .op (.P (.mv (.k (.bool false)))) false (some r13)])
 (.seq (.seq (.reg [.op (.R (.ld 8 true (.sl r0))) true none,
  .op (.C (.cf 17 [(.st 0)])) true none,
  .op (.P (.no (.st 0))) false (some r5)])
 (.cond (.sl r5) (.seq (.reg [.op (.P (.mv (.k (.bool true)))) false (some r13)])
 (.ret))
 (.skip)))
 (.seq (.seq (.reg [.op (.C (.cf 11 [])) true none,
  .op (.P (.no (.st 0))) false (some r6)])
 (.cond (.sl r6) (.seq (.reg [.op (.P (.mv (.k (.bool false)))) false (some r13)])
 (.ret))
 (.skip)))
 (.seq (.reg [.op (.R (.ld 8 true (.sl r0))) true none,
  .op (.C (.cf 14 [(.st 0)])) true none,
  .op (.P (.ifc 35 (.st 0))) true none,
  .el,
  .el,
  .el,
  .el,
  .op (.C (.cf 13 [(.st 0), (.sl r3), (.sl r2), (.sl r7), (.sl r1)])) true none,
  .el,
  .op (.P (.ext 0 (.st 0))) true none,
  .op (.P (.ext 1 (.st 1))) true none,
  .op (.P (.mv (.st 1))) false (some r10),
  .op (.P (.mv (.st 0))) false (some r12)])
 (.seq (.reg [.op (.R (.ld 8 true (.sl r0))) true none,
  .op (.C (.cf 14 [(.st 0)])) true none,
  .op (.P (.ifc 35 (.st 0))) true none,
  .el,
  .el,
  .el,
  .el,
  .op (.C (.cf 13 [(.st 0), (.sl r3), (.sl r2), (.sl r8), (.sl r1)])) true none,
  .el,
  .op (.P (.ext 0 (.st 0))) true none,
  .op (.P (.ext 1 (.st 1))) true none,
  .op (.P (.mv (.st 1))) false (some r9),
  .op (.P (.mv (.st 0))) false (some r11)])
 (.seq (.reg [.el,
  .op (.P (.no (.sl r12))) true none,
  .el,
  .op (.G (.st 0) false (.P (.mv (.sl r11)))) true none,
  .op (.G (.st 1) false (.P (.no (.st 0)))) true none,
  .op (.P (.pick (.st 2) (.k (.bool true)) (.st 0))) true none,
  .el,
  .op (.G (.st 0) false (.P (.mv (.sl r10)))) true none,
  .op (.G (.st 1) false (.P (.mv (.sl r9)))) true none,
  .op (.G (.st 2) false (.C (.cf 18 [(.st 1), (.st 0)]))) true none,
  .op (.P (.pick (.st 3) (.k (.bool true)) (.st 0))) true none,
  .op (.P (.mv (.st 0))) false (some r13)])
 (.ret)))))))
  [.sl (.sl r13)]

def m8 : SlotMap := [(7, r0), (0, r1), (1, r2), (6, r3), (9, r4), (11, r5), (5, r6), (8, r7), (63, r8), (72, r9), (4, r10)]
def c8 : VFn :=
 VFn.mk [some r1, some r2] (.seq (.reg [.op (.P (.mv (.k (.bool false)))) false (some r10)])
 (.seq (.seq (.reg [.op (.C (.cf 11 [])) true none,
  .op (.P (.no (.st 0))) false (some r5)])
 (.cond (.sl r5) (.seq (.reg [.op (.P (.mv (.k (.bool false)))) false (some r10)])
 (.ret))
 (.skip)))
 (.seq (.reg [.op (.F (.bsl 9 1 6 [(.str 0 0), (.str 0 0), (.str 0 0), (.str 0 0), (.str 0 0), (.str 0 0)] [(0, 1, (.k (.str 20 618833494589234067996851049920784082360548206633))), (1, 1, (.k (.str 9 2074498770261612967209))), (2, 1, (.k (.str 10 544943221208766539129641))), (3, 1, (.k (.str 18 10052428136341007394497964825129640123377961))), (4, 1, (.k (.str 24 2657869620930153275751522962504529881376119371286590793769))), (5, 1, (.k (.str 6 126862481699625)))])) true none,
  .el,
  .op (.C (.cf 16 [(.sl r1), (.k (.int .i64 6))])) true none,
  .op (.P (.ia 1 (.st 1) (.st 0))) true none,
  .op (.R (.ld 1 false (.st 0))) true none,
  .op (.P (.mv (.st 0))) false (some r6)])
 (.seq (.reg [.el,
  .op (.P (.cat (.k (.str 164 38218275839061058546015504860451542341212776056335720033761931157519163219326733653820648173943521538394987911899107239930407177419624936510258365175091899497003914081218920096075970758480183063024584726530434515088762702298797246777340456328328261131758631771733420066728207847399406644444750333157339367515316213807161211553020930969527307531687286260171506888522588853726132552984240444763680)) (.sl r6))) true none,
  .op (.P (.cat (.st 0) (.k (.str 1 59)))) true none,
  .op (.C (.cf 12 [(.st 0)])) true none,
  .op (.F (.al 30 [(.str 0 0), (.int .i64 0), .nils, .nils, .nils, .nils, .nils, .nils])) false (some r3),
  .op (.W (.st 8 (.sl r3) (.st 0))) false none])
 (.seq (.reg [.op (.R (.ld 8 true (.sl r3))) true none,
  .op (.C (.cf 14 [(.st 0)])) true none,
  .op (.P (.ifc 35 (.st 0))) true none,
  .op (.P (.bld [(.int .i64 0), (.int .i64 0), (.str 0 0), .nils] [(0, 1, (.k (.int .i64 6))), (1, 1, (.k (.int .i64 9)))])) true none,
  .el,
  .op (.P (.bld [(.int .i64 0), (.int .i64 0), (.str 0 0), .nils] [(0, 1, (.k (.int .i64 2))), (1, 1, (.sl r2))])) true none,
  .op (.F (.bsl 39 4 2 [(.int .i64 0), (.int .i64 0), (.str 0 0), .nils, (.int .i64 0), (.int .i64 0), (.str 0 0), .nils] [(0, 4, (.st 1)), (4, 4, (.st 0))])) true none,
  .op (.C (.cf 13 [(.st 3), (.k (.str 1 65)), (.st 0), (.k .nils), (.k .nils)])) true none,
  .el,
  .op (.P (.ext 0 (.st 0))) true none,
  .op (.P (.ext 1 (.st 1))) true none,
  .op (.P (.mv (.st 1))) false (some r0),
  .op (.P (.mv (.st 0))) false (some r7)])
 (.seq (.seq (.reg [.el,
  .op (.P (.no (.sl r7))) true none,
  .el,
  .op (.G (.st 0) false (.P (.fa 7 (.sl r3)))) true none,
  .op (.G (.st 1) false (.R (.ld 1 false (.st 0)))) true none,
  .op (.G (.st 2) false (.P (.ln 1 (.st 0)))) true none,
  .op (.G (.st 3) false (.P (.cmi .neq (.st 0) (.k (.int .i64 2))))) true none,
  .op (.P (.pick (.st 4) (.k (.bool true)) (.st 0))) true none,
  .el,
  .op (.G (.st 0) false (.P (.mv (.sl r0)))) true none,
  .op (.G (.st 1) false (.P (.ln 1 (.st 0)))) true none,
  .op (.G (.st 2) false (.P (.cmi .lss (.st 0) (.k (.int .i64 2))))) true none,
  .op (.P (.pick (.st 3) (.k (.bool true)) (.st 0))) true none,
  .el,
  .op (.G (.st 0) false (.P (.mv (.sl r0)))) true none,
  .op (.G (.st 1) false (.P (.ia 8 (.st 0) (.k (.int .i64 0))))) true none,
  .op (.G (.st 2) false (.P (.fa 0 (.st 0)))) true none,
  .op (.G (.st 3) false (.R (.ld 1 false (.st 0)))) true none,
  .op (.G (.st 4) false (.P (.cmi .neq (.st 0) (.k (.int .i64 3))))) true none,
  .op (.P (.pick (.st 5) (.k (.bool true)) (.st 0))) true none,
  .el,
  .op (.G (.st 0) false (.P (.mv (.sl r0)))) true none,
  .op (.G (.st 1) false (.P (.ia 8 (.st 0) (.k (.int .i64 0))))) true none,
  .op (.G (.st 2) false (.P (.fa 3 (.st 0)))) true none,
  .op (.G (.st 3) false (.R (.ld 4 true (.st 0)))) true none,
  .op (.G (.st 4) false (.P (.mv (.sl r2)))) true none,
  .op (.G (.st 5) false (.P (.bld [(.int .i64 0), (.int .i64 0), (.str 0 0), .nils] [(0, 1, (.k (.int .i64 2))), (1, 1, (.st 0))]))) true none,
  .op (.G (.st 6) false (.F (.bsl 39 4 1 [(.int .i64 0), (.int .i64 0), (.str 0 0), .nils] [(0, 4, (.st 0))]))) true none,
  .op (.G (.st 7) false (.P (.bld [(.int .i64 0), (.int .i64 0), (.str 0 0), .nils] [(0, 1, (.k (.int .i64 8))), (3, 1, (.st 0))]))) true none,
  .op (.G (.st 8) false (.C (.cf 19 [(.st 4), (.st 0)]))) true none,
  .op (.G (.st 9) false (.P (.no (.st 0)))) true none,
  .op (.P (.pick (.st 10) (.k (.bool true)) (.st 0))) false (some r8)])
 (.cond (.sl r8) (.seq (.reg [.op (.P (.mv (.k (.bool false)))) false (some r10)])
 (.ret))
 (.skip)))
 (.seq (.reg [.el,
  .el,
  .op (.P (.ln 1 (.sl r0))) true none,
  .op (.P (.ar .sub (.st 0) (.k (.int .i64 1)))) true none,
  .op (.P (.ia 8 (.sl r0) (.st 0))) true none,
  .op (.R (.ld 8 true (.st 0))) true none,
  .op (.F (.al 41 [(.int .i64 0), (.int .i64 0), (.str 0 0), (.int .i64 0), (.int .i64 0), (.str 0 0), .nils, .nils])) false (some r4),
  .op (.W (.st 8 (.sl r4) (.st 0))) false none])
 (.seq (.seq (.reg [.el,
  .op (.C (.cf 16 [(.sl r1), (.k (.int .i64 6))])) true none,
  .op (.P (.cmi .eql (.st 0) (.k (.int .i64 5)))) false (some r9)])
 (.cond (.sl r9) (.seq (.reg [.op (.P (.fa 0 (.sl r4))) true none,
  .op (.R (.ld 1 false (.st 0))) true none,
  .op (.P (.cmi .eql (.st 0) (.k (.int .i64 8)))) true none,
  .el,
  .op (.G (.st 0) true (.P (.mv (.sl r0)))) true none,
  .op (.G (.st 1) true (.P (.ia 8 (.st 0) (.k (.int .i64 1))))) true none,
  .op (.G (.st 2) true (.P (.fa 0 (.st 0)))) true none,
  .op (.G (.st 3) true (.R (.ld 1 false (.st 0)))) true none,
  .op (.G (.st 4) true (.P (.cmi .eql (.st 0) (.k (.int .i64 2))))) true none,
  .op (.P (.pick (.st 5) (.st 0) (.k (.bool false)))) true none,
  .op (.P (.mv (.st 0))) false (some r10)])
 (.ret))
 (.skip)))
 (.seq (.reg [.op (.P (.fa 0 (.sl r4))) true none,
  .op (.R (.ld 1 false (.st 0))) true none,
  .op (.P (.cmi .eql (.st 0) (.k (.int .i64 9)))) true none,
  .el,
  .op (.G (.st 0) true (.P (.fa 2 (.sl r4)))) true none,
  .op (.G (.st 1) true (.R (.ld 1 false (.st 0)))) true none,
  .op (.G (.st 2) true (.P (.cms .eql (.st 0) (.k (.str 4 1735356005))))) true none,
  .op (.P (.pick (.st 3) (.st 0) (.k (.bool false)))) true none,
  .el,
  .op (.G (.st 0) true (.P (.mv (.sl r0)))) true none,
  .op (.G (.st 1) true (.P (.ln 1 (.st 0)))) true none,
  .op (.G (.st 2) true (.P (.cmi .eql (.st 0) (.k (.int .i64 2))))) true none,
  .op (.P (.pick (.st 3) (.st 0) (.k (.bool false)))) true none,
  .op (.P (.mv (.st 0))) false (some r10)])
 (.ret))))))))))
  [.sl (.sl r10)]

def m9 : SlotMap := [(4, r0), (3, r1), (2, r2), (1, r3), (9, r4), (0, r5), (18, r6), (20, r7), (14, r8), (12, r9), (10, r10), (15, r11), (13, r12), (11, r13), (8, r14)]
def c9 : VFn :=
 VFn.mk [some r5, some r3, some r2, some r1] (.seq (.reg [.op (.F (.bx 30 (.sl r5))) false (some r0),
  .op (.P (.mv (.k (.bool false)))) false (some r14)])
 (.seq (.seq (.reg [.op (.R (.ld 8 true (.sl r0))) true none,
  .op (.C (.cf 17 [(.st 0)])) true none,
  .op (.P (.no (.st 0))) false (some r6)])
 (.cond (.sl r6) (.seq (.reg [.op (.P (.mv (.k (.bool true)))) false (some r14)])
 (.ret))
 (.skip)))
 (.seq (.seq (.reg [.op (.C (.cf 11 [])) true none,
  .op (.P (.no (.st 0))) false (some r7)])
 (.cond (.sl r7) (.seq (.reg [.op (.P (.mv (.k (.bool false)))) false (some r14)])
 (.ret))
 (.skip)))
 (.seq (.reg [.op (.R (.ld 8 true (.sl r0))) true none,
  .op (.C (.cf 14 [(.st 0)])) true none,
  .op (.P (.mv (.st 0))) false (some r4)])
 (.seq (.reg [.el,
  .op (.P (.ifc 35 (.sl r4))) true none,
  .el,
  .el,
  .el,
  .op (.C (.cf 13 [(.st 0), (.sl r3), (.sl r2), (.k .nils), (.sl r1)])) true none,
  .el,
  .op (.P (.ext 0 (.st 0))) true none,
  .op (.P (.ext 1 (.st 1))) true none,
  .op (.P (.mv (.st 1))) false (some r10),
  .op (.P (.mv (.st 0))) false (some r13)])
 (.seq (.reg [.el,
  .op (.P (.ifc 35 (.sl r4))) true none,
  .el,
  .el,
  .el,
  .op (.C (.cf 13 [(.st 0), (.sl r3), (.sl r2), (.k .nils), (.sl r1)])) true none,
  .el,
  .op (.P (.ext 0 (.st 0))) true none,
  .op (.P (.ext 1 (.st 1))) true none,
  .op (.P (.mv (.st 1))) false (some r9),
  .op (.P (.mv (.st 0))) false (some r12)])
 (.seq (.reg [.op (.R (.ld 8 true (.sl r0))) true none,
  .op (.C (.cf 14 [(.st 0)])) true none,
  .op (.P (.ifc 35 (.st 0))) true none,
  .el,
  .el,
  .el,
  .op (.C (.cf 13 [(.st 0), (.sl r3), (.sl r2), (.k .nils), (.sl r1)])) true none,
  .el,
  .op (.P (.ext 0 (.st 0))) true none,
  .op (.P (.ext 1 (.st 1))) true none,
  .op (.P (.mv (.st 1))) false (some r8),
  .op (.P (.mv (.st 0))) false (some r11)])
 (.seq (.reg [.el,
  .el,
  .op (.P (.cmb false (.sl r13) (.sl r12))) true none,
  .el,
  .op (.G (.st 0) true (.P (.mv (.sl r12)))) true none,
  .op (.G (.st 1) true (.P (.mv (.sl r11)))) true none,
  .op (.G (.st 2) true (.P (.cmb false (.st 1) (.st 0)))) true none,
  .op (.P (.pick (.st 3) (.st 0) (.k (.bool false)))) true none,
  .el,
  .op (.G (.st 0) true (.P (.mv (.sl r10)))) true none,
  .op (.G (.st 1) true (.P (.mv (.sl r9)))) true none,
  .op (.G (.st 2) true (.C (.cf 18 [(.st 1), (.st 0)]))) true none,
  .op (.P (.pick (.st 3) (.st 0) (.k (.bool false)))) true none,
  .el,
  .op (.G (.st 0) true (.P (.mv (.sl r9)))) true none,
  .op (.G (.st 1) true (.P (.mv (.sl r8)))) true none,
  .op (.G (.st 2) true (.C (.cf 18 [(.st 1), (.st 0)]))) true none,
  .op (.P (.pick (.st 3) (.st 0) (.k (.bool false)))) true none,
  .op (.P (.mv (.st 0))) false (some r14)])
 (.ret)))))))))
  [.sl (.sl r14)]

def m10 : SlotMap := [(1, r0), (11, r1), (12, r2), (2, r3), (3, r4), (18, r5), (115, r6), (5, r7), (4, r8), (14, r9), (24, r10), (0, r11), (29, r12), (31, r13), (13, r14), (46, r15), (15, r16), (56, r17), (21, r18), (19, r19), (17, r20), (101, r21), (20, r22), (23, r23), (112, r24), (114, r25), (116, r26), (113, r27), (26, r28), (121, r29), (22, r30), (16, r31), (10, r32)]
def c10 : VFn :=
 VFn.mk [some r11, some r0, some r3, some r4, some r8] (.seq (.reg [.op (.F (.bx 30 (.sl r11))) false (some r7),
  .op (.P (.mv (.k (.bool false)))) false (some r32)])
 (.seq (.seq (.reg [.op (.R (.ld 8 true (.sl r7))) true none,
  .op (.C (.cf 17 [(.st 0)])) true none,
  .op (.P (.no (.st 0))) false (some r12)])
 (.cond (.sl r12) (.seq (.reg [.op (.P (.mv (.k (.bool true)))) false (some r32)])
 (.ret))
 (.skip)))
 (.seq (.seq (.reg [.op (.C (.cf 11 [])) true none,
  .op (.P (.no (.st 0))) false (some r13)])
 (.cond (.sl r13) (.seq (.reg [.op (.P (.mv (.k (.bool false)))) false (some r32)])
 (.ret))
 (.skip)))
 (.seq (.reg [.op (.R (.ld 8 true (.sl r7))) true none,
  .op (.C (.cf 14 [(.st 0)])) true none,
  .op (.P (.mv (.st 0))) false (some r1)])
 (.seq (.reg [.el,
  .el,
  .el,
  .op (.C (.cf 20 [(.sl r1), (.sl r0), (.sl r3), (.k (.int .i64 7))])) true none,
  .el,
  .op (.P (.ext 0 (.st 0))) true none,
  .op (.P (.ext 1 (.st 1))) true none,
  .op (.P (.mv (.st 1))) false (some r2),
  .op (.P (.mv (.st 0))) false (some r14)])
 (.seq (.seq (.reg [.el,
  .op (.P (.cmi .neq (.sl r14) (.k (.int .i64 0)))) true none,
  .el,
  .op (.G (.st 0) false (.P (.mv (.sl r2)))) true none,
  .op (.G (.st 1) false (.P (.cmn 0 false (.st 0)))) true none,
  .op (.P (.pick (.st 2) (.k (.bool true)) (.st 0))) false (some r15)])
 (.cond (.sl r15) (.seq (.reg [.el,
  .op (.P (.cmn 0 false (.sl r2))) true none,
  .op (.P (.mv (.st 0))) false (some r32)])
 (.ret))
 (.skip)))
 (.seq (.reg [.el,
  .el,
  .op (.C (.cf 21 [(.sl r2), (.sl r4)])) true none,
  .el,
  .op (.P (.ext 0 (.st 0))) true none,
  .op (.P (.ext 1 (.st 1))) true none,
  .op (.P (.mv (.st 1))) false (some r9),
  .op (.P (.mv (.st 0))) false (some r16)])
 (.seq (.seq (.reg [.el,
  .op (.P (.no (.sl r16))) false (some r17)])
 (.cond (.sl r17) (.seq (.reg [.op (.P (.mv (.k (.bool true)))) false (some r32)])
 (.ret))
 (.skip)))
 (.seq (.reg [.el,
  .op (.P (.ifc 35 (.sl r1))) true none,
  .el,
  .el,
  .el,
  .el,
  .op (.R (.sll 66 5 (.sl r4) none (some (.sl r9)))) true none,
  .op (.C (.cf 22 [(.st 0)])) true none,
  .el,
  .op (.W (.app 66 5 (.st 0) (.sl r8))) true none,
  .op (.C (.cf 13 [(.st 3), (.sl r0), (.sl r3), (.k .nils), (.st 0)])) true none,
  .el,
  .op (.P (.ext 0 (.st 0))) true none,
  .op (.P (.ext 1 (.st 1))) true none,
  .op (.P (.mv (.st 1))) false (some r31),
  .op (.P (.mv (.st 0))) false (some r20)])
 (.seq (.reg [.el,
  .op (.P (.ifc 35 (.sl r1))) true none,
  .el,
  .el,
  .el,
  .el,
  .op (.R (.sll 66 5 (.sl r4) none (some (.sl r9)))) true none,
  .op (.C (.cf 13 [(.st 1), (.sl r0), (.sl r3), (.k .nils), (.st 0)])) true none,
  .el,
  .op (.P (.ext 0 (.st 0))) true none,
  .op (.P (.ext 1 (.st 1))) true none,
  .op (.P (.mv (.st 1))) false (some r5),
  .op (.P (.mv (.st 0))) false (some r19)])
 (.seq (.reg [.el,
  .op (.C (.iv [(132, 229)] (.sl r2) [])) true none,
  .el,
  .op (.P (.ext 0 (.st 0))) true none,
  .op (.P (.ext 1 (.st 1))) true none,
  .op (.P (.mv (.st 1))) false (some r22),
  .op (.P (.mv (.st 0))) false (some r18)])
 (.seq (.seq (.reg [.el,
  .op (.P (.no (.sl r20))) true none,
  .el,
  .op (.G (.st 0) false (.P (.mv (.sl r19)))) true none,
  .op (.G (.st 1) false (.P (.no (.st 0)))) true none,
  .op (.P (.pick (.st 2) (.k (.bool true)) (.st 0))) true none,
  .el,
  .op (.G (.st 0) false (.P (.mv (.sl r18)))) true none,
  .op (.G (.st 1) false (.P (.no (.st 0)))) true none,
  .op (.P (.pick (.st 2) (.k (.bool true)) (.st 0))) true none,
  .el,
  .op (.G (.st 0) false (.P (.mv (.sl r5)))) true none,
  .op (.G (.st 1) false (.P (.ln 1 (.st 0)))) true none,
  .op (.G (.st 2) false (.P (.cmi .eql (.st 0) (.k (.int .i64 0))))) true none,
  .op (.P (.pick (.st 3) (.k (.bool true)) (.st 0))) false (some r21)])
 (.cond (.sl r21) (.seq (.reg [.op (.P (.mv (.k (.bool true)))) false (some r32)])
 (.ret))
 (.skip)))
 (.seq (.reg [.el,
  .op (.P (.ifc 35 (.sl r1))) true none,
  .el,
  .el,
  .el,
  .op (.C (.cf 13 [(.st 0), (.sl r0), (.sl r22), (.k .nils), (.sl r8)])) true none,
  .el,
  .op (.P (.ext 0 (.st 0))) true none,
  .op (.P (.ext 1 (.st 1))) true none,
  .op (.P (.mv (.st 1))) false (some r30),
  .op (.P (.mv (.st 0))) false (some r23)])
 (.seq (.seq (.reg [.el,
  .op (.P (.no (.sl r23))) false (some r24)])
 (.cond (.sl r24) (.seq (.reg [.op (.P (.mv (.k (.bool true)))) false (some r32)])
 (.ret))
 (.skip)))
 (.seq (.reg [.op (.P (.mv (.k (.int .i64 0)))) false (some r10)])
 (.seq (.seq (.reg [.op (.P (.mv (.sl r5))) false (some r27),
  .op (.P (.ln 1 (.sl r27))) false (some r25),
  .op (.P (.mv (.k (.int .i64 0)))) false (some r6)])
 (.block 0 (.loop (.seq (.reg [.op (.P (.cmi .lss (.sl r6) (.sl r25))) false (some r26)])
 (.seq (.cond (.sl r26) (.skip)
 (.exit 0))
 (.seq (.block 1 (.seq (.reg [.op (.P (.ia 8 (.sl r27) (.sl r6))) true none,
  .op (.R (.ld 8 true (.st 0))) true none,
  .op (.F (.al 41 [(.int .i64 0), (.int .i64 0), (.str 0 0), (.int .i64 0), (.int .i64 0), (.str 0 0), .nils, .nils])) false (some r28),
  .op (.W (.st 8 (.sl r28) (.st 0))) false none])
 (.seq (.reg [.op (.P (.fa 0 (.sl r28))) true none,
  .op (.R (.ld 1 false (.st 0))) true none,
  .op (.P (.cmi .eql (.st 0) (.k (.int .i64 4)))) false (some r29)])
 (.cond (.sl r29) (.reg [.op (.P (.mv (.sl r10))) true none,
  .op (.P (.ar .add (.st 0) (.k (.int .i64 1)))) true none,
  .op (.P (.mv (.st 0))) false (some r10)])
 (.skip)))))
 (.reg [.op (.P (.ar .add (.sl r6) (.k (.int .i64 1)))) true none,
  .op (.P (.mv (.st 0))) false (some r6)])))))))
 (.seq (.reg [.el,
  .op (.P (.cmi .gtr (.sl r10) (.k (.int .i64 0)))) true none,
  .el,
  .op (.G (.st 0) false (.P (.mv (.sl r31)))) true none,
  .op (.G (.st 1) false (.P (.ln 1 (.st 0)))) true none,
  .op (.G (.st 2) false (.P (.mv (.sl r5)))) true none,
  .op (.G (.st 3) false (.P (.ln 1 (.st 0)))) true none,
  .op (.G (.st 4) false (.P (.ar .sub (.st 0) (.k (.int .i64 1))))) true none,
  .op (.G (.st 5) false (.P (.cmi .geq (.st 3) (.st 0)))) true none,
  .op (.G (.st 6) false (.P (.mv (.st 0)))) true none,
  .op (.G (.st 0) true (.P (.mv (.sl r31)))) true none,
  .op (.G (.st 1) true (.P (.mv (.sl r5)))) true none,
  .op (.G (.st 2) true (.P (.ln 1 (.st 0)))) true none,
  .op (.G (.st 3) true (.P (.ar .sub (.st 0) (.k (.int .i64 1))))) true none,
  .op (.G (.st 4) true (.R (.sll 41 8 (.st 3) (some (.st 0)) none))) true none,
  .op (.G (.st 5) true (.P (.mv (.sl r30)))) true none,
  .op (.G (.st 6) true (.C (.cf 18 [(.st 1), (.st 0)]))) true none,
  .op (.G (.st 14) false (.P (.pick (.st 7) (.st 0) (.k (.bool false))))) true none,
  .op (.P (.pick (.st 15) (.k (.bool true)) (.st 0))) true none,
  .op (.P (.mv (.st 0))) false (some r32)])
 (.ret))))))))))))))))))
  [.sl (.sl r32)]

def m11 : SlotMap := [(1, r0), (2, r1), (3, r2), (0, r3)]
def c11 : VFn :=
 VFn.mk [] (.seq (.reg [.op (.P (.mv (.k (.bool false)))) false (some r3)])
 (.seq (.reg [.op (.C (.cf 12 [(.k (.str 205 20898237882235843373980276748371555407587613022759877866601884714610958489155280700657416896193434877163848604336465057951923023856938354407790148809219031915083744787964442422692554109238635297202609757653451496413860358656159515075634210538638850532007128319432036128261562365227323746998130377062980986090863846347245877772738703102567440553274742817635464070332084299679025786201283280228801311260894437680873500107413020129820625806244425541553589472962947164795072895641156411799541677371))])) true none,
  .op (.F (.al 30 [(.str 0 0), (.int .i64 0), .nils, .nils, .nils, .nils, .nils, .nils])) false (some r0),
  .op (.W (.st 8 (.sl r0) (.st 0))) false none])
 (.seq (.reg [.op (.R (.ld 8 true (.sl r0))) true none,
  .op (.C (.cf 14 [(.st 0)])) true none,
  .op (.P (.ifc 35 (.st 0))) true none,
  .op (.P (.bld [(.int .i64 0), (.int .i64 0), (.str 0 0), .nils] [(0, 1, (.k (.int .i64 2))), (1, 1, (.k (.int .i64 4)))])) true none,
  .op (.F (.bsl 39 4 1 [(.int .i64 0), (.int .i64 0), (.str 0 0), .nils] [(0, 4, (.st 0))])) true none,
  .op (.P (.bld [(.int .i64 0), (.int .i64 0), (.str 0 0), .nils] [(0, 1, (.k (.int .i64 2))), (1, 1, (.k (.int .i64 3)))])) true none,
  .op (.P (.bld [(.int .i64 0), (.int .i64 0), (.int .i64 0), (.str 0 0), .nils] [(1, 4, (.st 0))])) true none,
  .op (.F (.bsl 66 5 1 [(.int .i64 0), (.int .i64 0), (.int .i64 0), (.str 0 0), .nils] [(0, 5, (.st 0))])) true none,
  .op (.C (.cf 13 [(.st 5), (.k (.str 1 65)), (.st 3), (.k .nils), (.st 0)])) true none,
  .el,
  .op (.P (.ext 0 (.st 0))) true none,
  .op (.P (.ext 1 (.st 1))) true none,
  .op (.P (.mv (.st 1))) false (some r1),
  .op (.P (.mv (.st 0))) false (some r2)])
 (.seq (.reg [.el,
  .el,
  .op (.G (.sl r2) true (.P (.mv (.sl r1)))) true none,
  .op (.G (.sl r2) true (.P (.ln 1 (.st 0)))) true none,
  .op (.G (.sl r2) true (.P (.cmi .eql (.st 0) (.k (.int .i64 3))))) true none,
  .op (.P (.pick (.sl r2) (.st 0) (.k (.bool false)))) true none,
  .el,
  .op (.G (.st 0) true (.P (.mv (.sl r1)))) true none,
  .op (.G (.st 1) true (.P (.ia 8 (.st 0) (.k (.int .i64 0))))) true none,
  .op (.G (.st 2) true (.P (.fa 0 (.st 0)))) true none,
  .op (.G (.st 3) true (.R (.ld 1 false (.st 0)))) true none,
  .op (.G (.st 4) true (.P (.cmi .eql (.st 0) (.k (.int .i64 7))))) true none,
  .op (.P (.pick (.st 5) (.st 0) (.k (.bool false)))) true none,
  .el,
  .op (.G (.st 0) true (.P (.mv (.sl r1)))) true none,
  .op (.G (.st 1) true (.P (.ia 8 (.st 0) (.k (.int .i64 1))))) true none,
  .op (.G (.st 2) true (.P (.fa 0 (.st 0)))) true none,
  .op (.G (.st 3) true (.R (.ld 1 false (.st 0)))) true none,
  .op (.G (.st 4) true (.P (.cmi .eql (.st 0) (.k (.int .i64 2))))) true none,
  .op (.P (.pick (.st 5) (.st 0) (.k (.bool false)))) true none,
  .el,
  .op (.G (.st 0) true (.P (.mv (.sl r1)))) true none,
  .op (.G (.st 1) true (.P (.ia 8 (.st 0) (.k (.int .i64 1))))) true none,
  .op (.G (.st 2) true (.P (.fa 1 (.st 0)))) true none,
  .op (.G (.st 3) true (.R (.ld 1 false (.st 0)))) true none,
  .op (.G (.st 4) true (.P (.cmi .eql (.st 0) (.k (.int .i64 7))))) true none,
  .op (.P (.pick (.st 5) (.st 0) (.k (.bool false)))) true none,
  .el,
  .op (.G (.st 0) true (.P (.mv (.sl r1)))) true none,
  .op (.G (.st 1) true (.P (.ia 8 (.st 0) (.k (.int .i64 2))))) true none,
  .op (.G (.st 2) true (.P (.fa 0 (.st 0)))) true none,
  .op (.G (.st 3) true (.R (.ld 1 false (.st 0)))) true none,
  .op (.G (.st 4) true (.P (.cmi .eql (.st 0) (.k (.int .i64 7))))) true none,
  .op (.P (.pick (.st 5) (.st 0) (.k (.bool false)))) true none,
  .op (.P (.mv (.st 0))) false (some r3)])
 (.ret)))))
  [.sl (.sl r3)]

def m12 : SlotMap := [(2, r0), (0, r1), (3, r2)]
def c12 : VFn :=
 VFn.mk [some r1] (.seq (.reg [.op (.F (.al 30 [(.str 0 0), (.int .i64 0), .nils, .nils, .nils, .nils, .nils, .nils])) false (some r0)])
 (.seq (.reg [.el,
  .op (.C (.cf 23 [(.sl r1)])) true none,
  .el,
  .op (.P (.ext 0 (.st 0))) true none,
  .op (.P (.ext 1 (.st 1))) true none,
  .op (.P (.ext 2 (.st 2))) true none,
  .op (.F (.al 30 [(.str 0 0), (.int .i64 0), .nils, .nils, .nils, .nils, .nils, .nils])) false (some r2),
  .op (.W (.st 8 (.sl r2) (.st 2))) false none,
  .op (.P (.mv (.st 1))) false none,
  .op (.P (.mv (.st 0))) false none])
 (.seq (.reg [.op (.R (.ld 8 true (.sl r2))) true none,
  .op (.W (.st 8 (.sl r0) (.st 0))) false none])
 (.ret))))
  [.cell (.sl r0) 8 true]

def m13 : SlotMap := [(12, r0), (19, r1), (65, r2), (14, r3), (4, r4), (21, r5), (16, r6), (3, r7), (17, r8), (18, r9), (66, r10), (15, r11), (20, r12), (2, r13), (1, r14), (0, r15), (13, r16), (34, r17), (36, r18), (41, r19), (59, r20), (70, r21), (78, r22), (86, r23), (99, r24), (104, r25), (110, r26), (10, r27), (11, r28)]
def c13 : VFn :=
 VFn.mk [some r15, some r14, some r13, some r7, some r4] (.seq (.reg [.op (.P (.mv (.k .nils))) false (some r27),
  .op (.P (.mv (.k (.bool false)))) false (some r28)])
 (.seq (.reg [.el,
  .el,
  .el,
  .op (.C (.iv [(35, 20)] (.sl r15) [(.sl r14), (.sl r13), (.k (.int .i64 7))])) true none,
  .el,
  .op (.P (.ext 0 (.st 0))) true none,
  .op (.P (.ext 1 (.st 1))) true none,
  .op (.P (.mv (.st 1))) false (some r0),
  .op (.P (.mv (.st 0))) false (some r16)])
 (.seq (.seq (.reg [.el,
  .op (.P (.cmi .neq (.sl r16) (.k (.int .i64 0)))) true none,
  .el,
  .op (.G (.st 0) false (.P (.mv (.sl r0)))) true none,
  .op (.G (.st 1) false (.P (.cmn 0 false (.st 0)))) true none,
  .op (.P (.pick (.st 2) (.k (.bool true)) (.st 0))) false (some r17)])
 (.cond (.sl r17) (.seq (.reg [.op (.P (.mv (.k .nils))) false (some r27),
  .op (.P (.mv (.k (.bool false)))) false (some r28)])
 (.ret))
 (.skip)))
 (.seq (.reg [.op (.P (.mv (.k .nils))) false (some r3)])
 (.seq (.reg [.op (.P (.mv (.k (.int .i64 1000)))) false (some r11),
  .op (.P (.mv (.k (.int .i64 0)))) false (some r6)])
 (.seq (.seq (.reg [.op (.P (.mv (.k (.int .i64 0)))) false (some r8)])
 (.block 0 (.loop (.seq (.seq (.reg [.el,
  .op (.P (.cmi .lss (.sl r6) (.k (.int .i64 60000)))) false (some r18)])
 (.cond (.sl r18) (.skip)
 (.exit 0)))
 (.seq (.block 1 (.seq (.reg [.op (.P (.mv (.k (.int .i64 400)))) false (some r9)])
 (.seq (.seq (.reg [.el,
  .op (.P (.ln 1 (.sl r7))) true none,
  .op (.P (.cmi .gtr (.st 0) (.k (.int .i64 0)))) false (some r19)])
 (.cond (.sl r19) (.reg [.el,
  .el,
  .el,
  .op (.P (.ln 1 (.sl r7))) true none,
  .op (.P (.ar .rem (.sl r8) (.st 0))) true none,
  .op (.P (.ia 1 (.sl r7) (.st 0))) true none,
  .op (.R (.ld 1 false (.st 0))) true none,
  .op (.C (.cf 16 [(.st 0), (.k (.int .i64 400))])) true none,
  .op (.P (.ar .add (.k (.int .i64 1)) (.st 0))) true none,
  .op (.P (.mv (.st 0))) false (some r9)])
 (.skip)))
 (.seq (.reg [.op (.P (.mv (.sl r6))) true none,
  .el,
  .op (.P (.ar .add (.st 0) (.sl r9))) true none,
  .op (.P (.mv (.st 0))) false (some r6)])
 (.seq (.reg [.el,
  .el,
  .op (.C (.iv [(132, 228)] (.sl r0) [(.sl r9)])) true none,
  .op (.F (.al 41 [(.int .i64 0), (.int .i64 0), (.str 0 0), (.int .i64 0), (.int .i64 0), (.str 0 0), .nils, .nils])) false (some r1),
  .op (.W (.st 8 (.sl r1) (.st 0))) false none])
 (.seq (.seq (.reg [.op (.P (.fa 0 (.sl r1))) true none,
  .op (.R (.ld 1 false (.st 0))) true none,
  .op (.P (.cmi .eql (.st 0) (.k (.int .i64 1)))) false (some r20)])
 (.cond (.sl r20) (.exit 1)
 (.skip)))
 (.seq (.reg [.op (.P (.mv (.sl r3))) true none,
  .op (.R (.ld 8 true (.sl r1))) true none,
  .op (.F (.bsl 41 8 1 [(.int .i64 0), (.int .i64 0), (.str 0 0), (.int .i64 0), (.int .i64 0), (.str 0 0), .nils, .nils] [(0, 8, (.st 0))])) true none,
  .op (.W (.app 41 8 (.st 2) (.st 0))) true none,
  .op (.P (.mv (.st 0))) false (some r3)])
 (.seq (.reg [.op (.P (.fa 0 (.sl r1))) true none,
  .op (.R (.ld 1 false (.st 0))) false (some r2)])
 (.block 2 (.seq (.seq (.reg [.op (.P (.cmi .eql (.sl r2) (.k (.int .i64 8)))) true none,
  .op (.P (.mv (.st 0))) false (some r10)])
 (.cond (.sl r10) (.skip)
 (.reg [.op (.P (.cmi .eql (.sl r2) (.k (.int .i64 9)))) true none,
  .op (.P (.mv (.st 0))) false (some r10)])))
 (.cond (.sl r10) (.seq (.reg [.el,
  .op (.P (.mv (.sl r3))) false (some r27),
  .op (.P (.mv (.k (.bool true)))) false (some r28)])
 (.ret))
 (.seq (.reg [.op (.P (.cmi .eql (.sl r2) (.k (.int .i64 4)))) true none,
  .op (.P (.mv (.st 0))) false (some r21)])
 (.cond (.sl r21) (.seq (.reg [.op (.P (.mv (.sl r11))) true none,
  .op (.P (.ar .add (.st 0) (.k (.int .i64 1)))) true none,
  .op (.P (.mv (.st 0))) false (some r11)])
 (.reg [.el,
  .el,
  .op (.P (.bld [(.int .i64 0), (.int .i64 0), (.str 0 0), .nils] [(0, 1, (.k (.int .i64 6))), (1, 1, (.sl r11))])) true none,
  .op (.C (.iv [(132, 225)] (.sl r0) [(.st 0)])) false none]))
 (.seq (.reg [.op (.P (.cmi .eql (.sl r2) (.k (.int .i64 7)))) true none,
  .op (.P (.mv (.st 0))) false (some r22)])
 (.cond (.sl r22) (.seq (.reg [.op (.P (.mv (.k (.bool false)))) false (some r12)])
 (.seq (.block 3 (.loop (.seq (.seq (.reg [.el,
  .op (.P (.ln 1 (.sl r4))) true none,
  .op (.P (.cmi .gtr (.st 0) (.k (.int .i64 0)))) true none,
  .el,
  .op (.G (.st 0) true (.P (.mv (.sl r12)))) true none,
  .op (.G (.st 1) true (.P (.no (.st 0)))) true none,
  .op (.P (.pick (.st 2) (.st 0) (.k (.bool false)))) false (some r23)])
 (.cond (.sl r23) (.skip)
 (.exit 3)))
 (.block 4 (.seq (.reg [.el,
  .op (.P (.ia 5 (.sl r4) (.k (.int .i64 0)))) true none,
  .op (.R (.ld 5 true (.st 0))) true none,
  .op (.F (.al 66 [(.int .i64 0), (.int .i64 0), (.int .i64 0), (.str 0 0), .nils])) false (some r5),
  .op (.W (.st 5 (.sl r5) (.st 0))) false none])
 (.seq (.reg [.op (.P (.mv (.sl r4))) true none,
  .op (.R (.sll 66 5 (.st 0) (some (.k (.int .i64 1))) none)) true none,
  .op (.P (.mv (.st 0))) false (some r4)])
 (.seq (.reg [.op (.P (.fa 0 (.sl r5))) true none,
  .op (.R (.ld 1 false (.st 0))) true none,
  .op (.P (.cmi .eql (.st 0) (.k (.int .i64 1)))) true none,
  .el,
  .op (.G (.st 0) true (.P (.fa 1 (.sl r1)))) true none,
  .op (.G (.st 1) true (.R (.ld 1 false (.st 0)))) true none,
  .op (.G (.st 2) true (.P (.cmi .geq (.st 0) (.k (.int .i64 0))))) true none,
  .op (.P (.pick (.st 3) (.st 0) (.k (.bool false)))) false (some r24)])
 (.cond (.sl r24) (.seq (.reg [.el,
  .op (.C (.iv [(132, 226)] (.sl r0) [])) false none])
 (.reg [.op (.P (.mv (.k (.bool true)))) false (some r12)]))
 (.seq (.reg [.op (.P (.fa 0 (.sl r5))) true none,
  .op (.R (.ld 1 false (.st 0))) true none,
  .op (.P (.cmi .neq (.st 0) (.k (.int .i64 1)))) false (some r25)])
 (.cond (.sl r25) (.reg [.el,
  .op (.P (.fa 1 (.sl r5))) true none,
  .op (.R (.ld 4 true (.st 0))) true none,
  .op (.C (.iv [(132, 227)] (.sl r0) [(.st 0)])) true none,
  .op (.P (.mv (.st 0))) false (some r12)])
 (.skip)))))))))))
 (.seq (.reg [.el,
  .op (.P (.no (.sl r12))) false (some r26)])
 (.cond (.sl r26) (.seq (.reg [.el,
  .op (.P (.mv (.sl r3))) false (some r27),
  .op (.P (.mv (.k (.bool true)))) false (some r28)])
 (.ret))
 (.skip)))))
 (.skip))))))))))))))))
 (.reg [.op (.P (.mv (.sl r8))) true none,
  .op (.P (.ar .add (.st 0) (.k (.int .i64 1)))) true none,
  .op (.P (.mv (.st 0))) false (some r8)]))))))
 (.seq (.reg [.op (.P (.mv (.k .nils))) false (some r27),
  .op (.P (.mv (.k (.bool false)))) false (some r28)])
 (.ret))))))))
  [.sl (.sl r27), .sl (.sl r28)]

def m14 : SlotMap := [(3, r0), (1, r1), (30, r2), (37, r3), (59, r4), (66, r5), (84, r6), (97, r7), (124, r8), (142, r9), (5, r10), (9, r11), (13, r12), (14, r13), (0, r14), (29, r15), (31, r16), (28, r17), (36, r18), (38, r19), (35, r20), (7, r21), (58, r22), (60, r23), (57, r24), (65, r25), (67, r26), (64, r27), (11, r28), (83, r29), (85, r30), (82, r31), (96, r32), (98, r33), (95, r34), (16, r35), (123, r36), (125, r37), (122, r38), (18, r39), (141, r40), (143, r41), (140, r42), (20, r43), (2, r44)]
def c14 : VFn :=
 VFn.mk [some r14] (.seq (.reg [.op (.F (.bx 30 (.sl r14))) false (some r1),
  .op (.P (.mv (.k .nilp))) false (some r44)])
 (.seq (.reg [.op (.W (.mkm)) true none,
  .op (.W (.mkm)) true none,
  .op (.W (.mkm)) true none,
  .op (.W (.mkm)) true none,
  .op (.P (.bld [.nils, .nilm, .nilm, .nilm, .nils, .nilm] [(1, 1, (.st 3)), (2, 1, (.st 2)), (3, 1, (.st 1)), (5, 1, (.st 0))])) true none,
  .op (.F (.bx 84 (.st 0))) true none,
  .op (.P (.mv (.st 0))) false (some r0)])
 (.seq (.seq (.reg [.op (.P (.fa 3 (.sl r1))) true none,
  .op (.R (.ld 1 false (.st 0))) false (some r17),
  .op (.P (.ln 1 (.sl r17))) false (some r15),
  .op (.P (.mv (.k (.int .i64 0)))) false (some r2)])
 (.block 0 (.loop (.seq (.reg [.op (.P (.cmi .lss (.sl r2) (.sl r15))) false (some r16)])
 (.seq (.cond (.sl r16) (.skip)
 (.exit 0))
 (.seq (.block 1 (.seq (.reg [.op (.P (.ia 3 (.sl r17) (.sl r2))) true none,
  .op (.R (.ld 3 true (.st 0))) true none,
  .op (.F (.al 87 [(.str 0 0), .nils, .nils])) false (some r10),
  .op (.W (.st 3 (.sl r10) (.st 0))) false none])
 (.seq (.reg [.op (.P (.fa 2 (.sl r10))) true none,
  .op (.R (.ld 1 false (.st 0))) false (some r20),
  .op (.P (.ln 1 (.sl r20))) false (some r18),
  .op (.P (.mv (.k (.int .i64 0)))) false (some r3)])
 (.block 2 (.loop (.seq (.reg [.op (.P (.cmi .lss (.sl r3) (.sl r18))) false (some r19)])
 (.seq (.cond (.sl r19) (.skip)
 (.exit 2))
 (.seq (.block 3 (.seq (.reg [.op (.P (.ia 2 (.sl r20) (.sl r3))) true none,
  .op (.R (.ld 2 true (.st 0))) true none,
  .op (.F (.al 90 [(.str 0 0), .nils])) false (some r21),
  .op (.W (.st 2 (.sl r21) (.st 0))) false none])
 (.dreg [(.q, .op (.P (.mv (.sl r0))) true none),
  (.q, .op (.P (.nn (.st 0))) true none),
  (.q, .op (.P (.fa 1 (.st 0))) true none),
  (.r 0 0, .op (.R (.ld 1 false (.st 0))) true none),
  (.q, .op (.P (.fa 0 (.sl r21))) true none),
  (.r 0 0, .op (.R (.ld 1 false (.st 0))) true none),
  (.q, .op (.P (.fa 0 (.sl r10))) true none),
  (.r 0 0, .op (.R (.ld 1 false (.st 0))) true none),
  (.q, .op (.P (.fa 1 (.sl r21))) true none),
  (.r 0 0, .op (.R (.ld 1 false (.st 0))) true none),
  (.q, .op (.P (.ln 1 (.st 0))) true none),
  (.q, .op (.P (.bld [(.str 0 0), (.int .i64 0)] [(0, 1, (.st 3)), (1, 1, (.st 0))])) true none),
  (.h [], .op (.C (.cf 24 [(.st 8), (.st 6), (.st 0)])) false none)])))
 (.reg [.op (.P (.ar .add (.sl r3) (.k (.int .i64 1)))) true none,
  .op (.P (.mv (.st 0))) false (some r3)])))))))))
 (.reg [.op (.P (.ar .add (.sl r2) (.k (.int .i64 1)))) true none,
  .op (.P (.mv (.st 0))) false (some r2)])))))))
 (.seq (.seq (.reg [.op (.P (.fa 4 (.sl r1))) true none,
  .op (.R (.ld 1 false (.st 0))) false (some r24),
  .op (.P (.ln 1 (.sl r24))) false (some r22),
  .op (.P (.mv (.k (.int .i64 0)))) false (some r4)])
 (.block 4 (.loop (.seq (.reg [.op (.P (.cmi .lss (.sl r4) (.sl r22))) false (some r23)])
 (.seq (.cond (.sl r23) (.skip)
 (.exit 4))
 (.seq (.block 5 (.seq (.reg [.op (.P (.ia 2 (.sl r24) (.sl r4))) true none,
  .op (.R (.ld 2 true (.st 0))) true none,
  .op (.F (.al 95 [(.str 0 0), .nils])) false (some r11),
  .op (.W (.st 2 (.sl r11) (.st 0))) false none])
 (.seq (.reg [.op (.P (.fa 1 (.sl r11))) true none,
  .op (.R (.ld 1 false (.st 0))) false (some r27),
  .op (.P (.ln 1 (.sl r27))) false (some r25),
  .op (.P (.mv (.k (.int .i64 0)))) false (some r5)])
 (.block 6 (.loop (.seq (.reg [.op (.P (.cmi .lss (.sl r5) (.sl r25))) false (some r26)])
 (.seq (.cond (.sl r26) (.skip)
 (.exit 6))
 (.seq (.block 7 (.seq (.reg [.op (.P (.ia 15 (.sl r27) (.sl r5))) true none,
  .op (.R (.ld 15 true (.st 0))) true none,
  .op (.F (.al 103 [(.str 0 0), .nils, .nils, .nils, (.int .i64 0), (.str 0 0), .nils, (.int .i64 0), (.int .i64 0), (.str 0 0), .nils, .nils, .nils, .nils, (.int .i64 0)])) false (some r28),
  .op (.W (.st 15 (.sl r28) (.st 0))) false none])
 (.dreg [(.q, .op (.P (.mv (.sl r0))) true none),
  (.q, .op (.P (.nn (.st 0))) true none),
  (.q, .op (.P (.fa 3 (.st 0))) true none),
  (.r 0 0, .op (.R (.ld 1 false (.st 0))) true none),
  (.q, .op (.P (.fa 0 (.sl r28))) true none),
  (.r 0 0, .op (.R (.ld 1 false (.st 0))) true none),
  (.q, .op (.P (.fa 0 (.sl r11))) true none),
  (.r 0 0, .op (.R (.ld 1 false (.st 0))) true none),
  (.h [], .op (.C (.cf 25 [(.st 4), (.st 2), (.st 0)])) false none)])))
 (.reg [.op (.P (.ar .add (.sl r5) (.k (.int .i64 1)))) true none,
  .op (.P (.mv (.st 0))) false (some r5)])))))))))
 (.reg [.op (.P (.ar .add (.sl r4) (.k (.int .i64 1)))) true none,
  .op (.P (.mv (.st 0))) false (some r4)])))))))
 (.seq (.seq (.reg [.op (.P (.fa 5 (.sl r1))) true none,
  .op (.R (.ld 1 false (.st 0))) false (some r31),
  .op (.P (.ln 1 (.sl r31))) false (some r29),
  .op (.P (.mv (.k (.int .i64 0)))) false (some r6)])
 (.block 8 (.loop (.seq (.reg [.op (.P (.cmi .lss (.sl r6) (.sl r29))) false (some r30)])
 (.seq (.cond (.sl r30) (.skip)
 (.exit 8))
 (.seq (.block 9 (.seq (.reg [.op (.P (.ia 3 (.sl r31) (.sl r6))) true none,
  .op (.R (.ld 3 true (.st 0))) true none,
  .op (.F (.al 106 [(.str 0 0), (.str 0 0), .nils])) false (some r12),
  .op (.W (.st 3 (.sl r12) (.st 0))) false none])
 (.seq (.reg [.op (.P (.fa 0 (.sl r12))) true none,
  .op (.R (.ld 1 false (.st 0))) true none,
  .op (.P (.fa 1 (.sl r12))) true none,
  .op (.R (.ld 1 false (.st 0))) true none,
  .op (.W (.mkm)) true none,
  .op (.P (.bld [(.str 0 0), (.str 0 0), .nilm] [(0, 1, (.st 3)), (1, 1, (.st 1)), (2, 1, (.st 0))])) true none,
  .op (.F (.al 108 [(.str 0 0), (.str 0 0), .nilm])) false (some r13),
  .op (.W (.st 3 (.sl r13) (.st 0))) false none])
 (.seq (.seq (.reg [.op (.P (.fa 2 (.sl r12))) true none,
  .op (.R (.ld 1 false (.st 0))) false (some r34),
  .op (.P (.ln 1 (.sl r34))) false (some r32),
  .op (.P (.mv (.k (.int .i64 0)))) false (some r7)])
 (.block 10 (.loop (.seq (.reg [.op (.P (.cmi .lss (.sl r7) (.sl r32))) false (some r33)])
 (.seq (.cond (.sl r33) (.skip)
 (.exit 10))
 (.seq (.block 11 (.seq (.reg [.op (.P (.ia 15 (.sl r34) (.sl r7))) true none,
  .op (.R (.ld 15 true (.st 0))) true none,
  .op (.F (.al 103 [(.str 0 0), .nils, .nils, .nils, (.int .i64 0), (.str 0 0), .nils, (.int .i64 0), (.int .i64 0), (.str 0 0), .nils, .nils, .nils, .nils, (.int .i64 0)])) false (some r35),
  .op (.W (.st 15 (.sl r35) (.st 0))) false none])
 (.dreg [(.q, .op (.P (.fa 2 (.sl r13))) true none),
  (.r 0 1, .op (.R (.ld 1 false (.st 0))) true none),
  (.q, .op (.P (.fa 0 (.sl r35))) true none),
  (.r 0 1, .op (.R (.ld 1 false (.st 0))) true none),
  (.q, .op (.P (.mv (.sl r0))) true none),
  (.r 0 0, .op (.R (.ld 15 true (.sl r35))) true none),
  (.h [], .op (.C (.cf 27 [(.st 1), (.st 0)])) true none),
  (.h [], .op (.C (.cf 26 [(.st 5), (.st 3), (.st 0)])) false none)])))
 (.reg [.op (.P (.ar .add (.sl r7) (.k (.int .i64 1)))) true none,
  .op (.P (.mv (.st 0))) false (some r7)])))))))
 (.dreg [(.q, .op (.P (.mv (.sl r0))) true none),
  (.q, .op (.P (.mv (.sl r0))) true none),
  (.q, .op (.P (.nn (.st 0))) true none),
  (.q, .op (.P (.fa 4 (.st 0))) true none),
  (.r 0 0, .op (.R (.ld 1 false (.st 0))) true none),
  (.r 0 0, .op (.R (.ld 3 true (.sl r13))) true none),
  (.f, .op (.F (.bsl 108 3 1 [(.str 0 0), (.str 0 0), .nilm] [(0, 3, (.st 0))])) true none),
  (.h [6], .op (.W (.app 108 3 (.st 2) (.st 0))) true none),
  (.q, .op (.P (.nn (.st 7))) true none),
  (.q, .op (.P (.fa 4 (.st 0))) true none),
  (.h [6], .op (.W (.st 1 (.st 0) (.st 2))) false none)])))))
 (.reg [.op (.P (.ar .add (.sl r6) (.k (.int .i64 1)))) true none,
  .op (.P (.mv (.st 0))) false (some r6)])))))))
 (.seq (.seq (.reg [.op (.P (.fa 6 (.sl r1))) true none,
  .op (.R (.ld 1 false (.st 0))) false (some r38),
  .op (.P (.ln 1 (.sl r38))) false (some r36),
  .op (.P (.mv (.k (.int .i64 0)))) false (some r8)])
 (.block 12 (.loop (.seq (.reg [.op (.P (.cmi .lss (.sl r8) (.sl r36))) false (some r37)])
 (.seq (.cond (.sl r37) (.skip)
 (.exit 12))
 (.seq (.block 13 (.seq (.reg [.op (.P (.ia 15 (.sl r38) (.sl r8))) true none,
  .op (.R (.ld 15 true (.st 0))) true none,
  .op (.F (.al 103 [(.str 0 0), .nils, .nils, .nils, (.int .i64 0), (.str 0 0), .nils, (.int .i64 0), (.int .i64 0), (.str 0 0), .nils, .nils, .nils, .nils, (.int .i64 0)])) false (some r39),
  .op (.W (.st 15 (.sl r39) (.st 0))) false none])
 (.dreg [(.q, .op (.P (.mv (.sl r0))) true none),
  (.q, .op (.P (.nn (.st 0))) true none),
  (.q, .op (.P (.fa 2 (.st 0))) true none),
  (.r 0 1, .op (.R (.ld 1 false (.st 0))) true none),
  (.q, .op (.P (.fa 0 (.sl r39))) true none),
  (.r 0 1, .op (.R (.ld 1 false (.st 0))) true none),
  (.q, .op (.P (.mv (.sl r0))) true none),
  (.r 0 0, .op (.R (.ld 15 true (.sl r39))) true none),
  (.h [], .op (.C (.cf 27 [(.st 1), (.st 0)])) true none),
  (.h [], .op (.C (.cf 26 [(.st 5), (.st 3), (.st 0)])) false none)])))
 (.reg [.op (.P (.ar .add (.sl r8) (.k (.int .i64 1)))) true none,
  .op (.P (.mv (.st 0))) false (some r8)])))))))
 (.seq (.seq (.reg [.op (.P (.fa 7 (.sl r1))) true none,
  .op (.R (.ld 1 false (.st 0))) false (some r42),
  .op (.P (.ln 1 (.sl r42))) false (some r40),
  .op (.P (.mv (.k (.int .i64 0)))) false (some r9)])
 (.block 14 (.loop (.seq (.reg [.op (.P (.cmi .lss (.sl r9) (.sl r40))) false (some r41)])
 (.seq (.cond (.sl r41) (.skip)
 (.exit 14))
 (.seq (.block 15 (.seq (.reg [.op (.P (.ia 14 (.sl r42) (.sl r9))) true none,
  .op (.R (.ld 14 true (.st 0))) true none,
  .op (.F (.al 115 [(.str 0 0), .nils, .nils, (.int .i64 0), (.str 0 0), .nils, (.int .i64 0), (.int .i64 0), (.str 0 0), .nils, .nils, .nils, .nils, (.int .i64 0)])) false (some r43),
  .op (.W (.st 14 (.sl r43) (.st 0))) false none])
 (.dreg [(.q, .op (.P (.mv (.sl r0))) true none),
  (.q, .op (.P (.nn (.st 0))) true none),
  (.q, .op (.P (.fa 5 (.st 0))) true none),
  (.r 0 2, .op (.R (.ld 1 false (.st 0))) true none),
  (.q, .op (.P (.fa 0 (.sl r43))) true none),
  (.r 0 2, .op (.R (.ld 1 false (.st 0))) true none),
  (.q, .op (.P (.fa 1 (.sl r43))) true none),
  (.r 0 0, .op (.R (.ld 1 false (.st 0))) true none),
  (.h [], .op (.C (.cf 29 [(.st 0)])) true none),
  (.q, .op (.P (.mv (.sl r0))) true none),
  (.q, .op (.P (.fa 6 (.sl r43))) true none),
  (.r 0 1, .op (.R (.ld 8 true (.st 0))) true none),
  (.h [], .op (.C (.cf 30 [(.st 2), (.st 0)])) true none),
  (.q, .op (.P (.bld [.nils, .nilp] [(0, 1, (.st 4)), (1, 1, (.st 0))])) true none),
  (.h [], .op (.C (.cf 28 [(.st 10), (.st 8), (.st 0)])) false none)])))
 (.reg [.op (.P (.ar .add (.sl r9) (.k (.int .i64 1)))) true none,
  .op (.P (.mv (.st 0))) false (some r9)])))))))
 (.seq (.reg [.el,
  .op (.P (.mv (.sl r0))) false (some r44)])
 (.ret)))))))))
  [.sl (.sl r44)]

def m15 : SlotMap := [(0, r0), (3, r1), (2, r2)]
def c15 : VFn :=
 VFn.mk [some r0] (.seq (.reg [.op (.P (.mv (.k (.str 0 0)))) false (some r2)])
 (.seq (.seq (.reg [.op (.P (.mv (.sl r0))) false (some r1)])
 (.cond (.sl r1) (.seq (.reg [.op (.P (.mv (.k (.str 4 1953658213)))) false (some r2)])
 (.ret))
 (.skip)))
 (.seq (.reg [.op (.P (.mv (.k (.str 5 439721161573)))) false (some r2)])
 (.ret))))
  [.sl (.sl r2)]

def m16 : SlotMap := [(1, r0), (0, r1), (4, r2)]
def c16 : VFn :=
 VFn.mk [some r1, some r0] (.seq (.reg [.op (.P (.mv (.k (.int .i64 0)))) false (some r2)])
 (.seq (.reg [.el,
  .el,
  .op (.C (.cf 31 [(.sl r1), (.sl r0)])) true none,
  .op (.P (.mv (.st 0))) false (some r2)])
 (.ret)))
  [.sl (.sl r2)]

def m17 : SlotMap := [(9, r0), (3, r1), (0, r2), (1, r3), (8, r4), (10, r5), (7, r6), (5, r7), (2, r8)]
def c17 : VFn :=
 VFn.mk [some r2] (.seq (.reg [.op (.F (.bx 30 (.sl r2))) false (some r3),
  .op (.P (.mv (.k (.bool false)))) false (some r8)])
 (.seq (.reg [.op (.P (.mv (.k (.int .i64 0)))) false (some r1)])
 (.seq (.seq (.reg [.op (.R (.ld 8 true (.sl r3))) true none,
  .op (.C (.cf 32 [(.st 0)])) false (some r6),
  .op (.P (.ln 1 (.sl r6))) false (some r4),
  .op (.P (.mv (.k (.int .i64 0)))) false (some r0)])
 (.block 0 (.loop (.seq (.reg [.op (.P (.cmi .lss (.sl r0) (.sl r4))) false (some r5)])
 (.seq (.cond (.sl r5) (.skip)
 (.exit 0))
 (.seq (.block 1 (.seq (.reg [.op (.P (.ia 8 (.sl r6) (.sl r0))) true none,
  .op (.R (.ld 8 true (.st 0))) true none,
  .op (.F (.al 101 [(.int .i64 0), (.int .i64 0), (.str 0 0), .nils, .nils, .nils, .nils, (.int .i64 0)])) false (some r7),
  .op (.W (.st 8 (.sl r7) (.st 0))) false none])
 (.reg [.op (.P (.mv (.sl r1))) true none,
  .op (.R (.ld 8 true (.sl r7))) true none,
  .op (.C (.cf 33 [(.st 0)])) true none,
  .op (.P (.ar .add (.st 2) (.st 0))) true none,
  .op (.P (.mv (.st 0))) false (some r1)])))
 (.reg [.op (.P (.ar .add (.sl r0) (.k (.int .i64 1)))) true none,
  .op (.P (.mv (.st 0))) false (some r0)])))))))
 (.seq (.reg [.el,
  .op (.P (.cmi .leq (.sl r1) (.k (.int .i64 400)))) true none,
  .op (.P (.mv (.st 0))) false (some r8)])
 (.ret)))))
  [.sl (.sl r8)]

def m18 : SlotMap := [(1, r0), (0, r1), (4, r2)]
def c18 : VFn :=
 VFn.mk [some r1, some r0] (.seq (.reg [.op (.P (.mv (.k (.bool false)))) false (some r2)])
 (.seq (.reg [.el,
  .el,
  .op (.C (.cf 34 [(.sl r1), (.sl r0), (.k (.fn 35 [] []))])) true none,
  .op (.P (.mv (.st 0))) false (some r2)])
 (.ret)))
  [.sl (.sl r2)]

def m19 : SlotMap := [(1, r0), (0, r1), (3, r2), (2, r3), (4, r4)]
def c19 : VFn :=
 VFn.mk [some r1, some r0] (.seq (.reg [.op (.F (.bx 39 (.sl r1))) false (some r3),
  .op (.F (.bx 39 (.sl r0))) false (some r2),
  .op (.P (.mv (.k (.bool false)))) false (some r4)])
 (.seq (.reg [.op (.P (.fa 0 (.sl r3))) true none,
  .op (.R (.ld 1 false (.st 0))) true none,
  .op (.P (.fa 0 (.sl r2))) true none,
  .op (.R (.ld 1 false (.st 0))) true none,
  .op (.P (.cmi .eql (.st 2) (.st 0))) true none,
  .el,
  .op (.G (.st 0) true (.P (.fa 1 (.sl r3)))) true none,
  .op (.G (.st 1) true (.R (.ld 1 false (.st 0)))) true none,
  .op (.G (.st 2) true (.P (.fa 1 (.sl r2)))) true none,
  .op (.G (.st 3) true (.R (.ld 1 false (.st 0)))) true none,
  .op (.G (.st 4) true (.P (.cmi .eql (.st 2) (.st 0)))) true none,
  .op (.P (.pick (.st 5) (.st 0) (.k (.bool false)))) true none,
  .el,
  .op (.G (.st 0) true (.P (.fa 2 (.sl r3)))) true none,
  .op (.G (.st 1) true (.R (.ld 1 false (.st 0)))) true none,
  .op (.G (.st 2) true (.P (.fa 2 (.sl r2)))) true none,
  .op (.G (.st 3) true (.R (.ld 1 false (.st 0)))) true none,
  .op (.G (.st 4) true (.P (.cms .eql (.st 2) (.st 0)))) true none,
  .op (.P (.pick (.st 5) (.st 0) (.k (.bool false)))) true none,
  .el,
  .op (.G (.st 0) true (.P (.fa 3 (.sl r3)))) true none,
  .op (.G (.st 1) true (.R (.ld 1 false (.st 0)))) true none,
  .op (.G (.st 2) true (.P (.fa 3 (.sl r2)))) true none,
  .op (.G (.st 3) true (.R (.ld 1 false (.st 0)))) true none,
  .op (.G (.st 4) true (.C (.cf 36 [(.st 2), (.st 0), (.k (.fn 19 [] []))]))) true none,
  .op (.P (.pick (.st 5) (.st 0) (.k (.bool false)))) true none,
  .op (.P (.mv (.st 0))) false (some r4)])
 (.ret)))
  [.sl (.sl r4)]

def m20 : SlotMap := [(0, r0), (10, r1), (2, r2), (12, r3), (14, r4), (1, r5), (11, r6), (24, r7), (27, r8), (13, r9), (41, r10), (44, r11), (3, r12), (8, r13), (9, r14)]
def c20 : VFn :=
 VFn.mk [some r0, some r5, some r2, some r12] (.seq (.reg [.op (.P (.mv (.k .nili))) false (some r13),
  .op (.P (.mv (.k (.int .i64 0)))) false (some r14)])
 (.seq (.reg [.el,
  .op (.P (.nn (.sl r0))) true none,
  .op (.P (.fa 5 (.st 0))) true none,
  .op (.R (.ld 1 false (.st 0))) true none,
  .el,
  .op (.R (.lk 1 true (.agg [.nils, .nilp]) (.st 0) (.sl r5))) true none,
  .el,
  .op (.P (.ext 0 (.st 0))) true none,
  .op (.P (.ext 1 (.st 1))) true none,
  .op (.F (.al 117 [.nils, .nilp])) false (some r1),
  .op (.W (.st 2 (.sl r1) (.st 1))) false none,
  .op (.P (.mv (.st 0))) false (some r6)])
 (.seq (.block 0 (.seq (.reg [.el,
  .op (.P (.no (.sl r6))) true none,
  .op (.P (.mv (.st 0))) false (some r7)])
 (.cond (.sl r7) (.seq (.reg [.op (.P (.mv (.k .nili))) false (some r13),
  .op (.P (.mv (.k (.int .i64 4)))) false (some r14)])
 (.ret))
 (.seq (.reg [.el,
  .op (.P (.ln 1 (.sl r2))) true none,
  .op (.P (.fa 0 (.sl r1))) true none,
  .op (.R (.ld 1 false (.st 0))) true none,
  .op (.P (.ln 1 (.st 0))) true none,
  .op (.P (.cmi .neq (.st 3) (.st 0))) true none,
  .op (.P (.mv (.st 0))) false (some r8)])
 (.cond (.sl r8) (.seq (.reg [.op (.P (.mv (.k .nili))) false (some r13),
  .op (.P (.mv (.k (.int .i64 1)))) false (some r14)])
 (.ret))
 (.skip))))))
 (.seq (.reg [.el,
  .el,
  .op (.P (.mkf 38 [(.sl r0)] [])) true none,
  .op (.C (.cf 37 [(.sl r2), (.st 0)])) true none,
  .el,
  .op (.P (.ext 0 (.st 0))) true none,
  .op (.P (.ext 1 (.st 1))) true none,
  .op (.P (.mv (.st 1))) false (some r3),
  .op (.P (.mv (.st 0))) false (some r9)])
 (.seq (.block 1 (.seq (.reg [.el,
  .op (.P (.no (.sl r9))) true none,
  .op (.P (.mv (.st 0))) false (some r10)])
 (.cond (.sl r10) (.seq (.reg [.op (.P (.mv (.k .nili))) false (some r13),
  .op (.P (.mv (.k (.int .i64 3)))) false (some r14)])
 (.ret))
 (.seq (.reg [.el,
  .op (.C (.cf 39 [(.sl r3)])) true none,
  .op (.P (.mv (.st 0))) false (some r11)])
 (.cond (.sl r11) (.seq (.reg [.op (.P (.mv (.k .nili))) false (some r13),
  .op (.P (.mv (.k (.int .i64 2)))) false (some r14)])
 (.ret))
 (.skip))))))
 (.seq (.reg [.el,
  .op (.R (.ld 2 true (.sl r1))) true none,
  .el,
  .op (.P (.bld [.nilp, .nils, .nilp, (.int .i64 0), .nils, (.int .i64 0), .nils, .nilp, .nilp, .nils, (.int .i64 0), (.bool false), (.int .i64 0), (.int .i64 0), (.str 0 0), .nils, .nilp, (.int .i64 0), (.int .i64 0), (.str 0 0), (.int .i64 0), (.int .i64 0), (.str 0 0), .nils, .nils, .nilp, .nilp, .nils, (.int .i64 0), (.bool false), .nilp] [(0, 1, (.sl r0)), (1, 2, (.st 0)), (3, 1, (.sl r12))])) true none,
  .op (.F (.bx 142 (.st 0))) true none,
  .op (.P (.mv (.st 0))) false (some r4)])
 (.seq (.reg [.el,
  .el,
  .op (.C (.cf 40 [(.sl r4), (.sl r3)])) false none])
 (.seq (.reg [.el,
  .op (.P (.ifc 132 (.sl r4))) true none,
  .op (.P (.mv (.st 0))) false (some r13),
  .op (.P (.mv (.k (.int .i64 0)))) false (some r14)])
 (.ret)))))))))
  [.sl (.sl r13), .sl (.sl r14)]

def m21 : SlotMap := [(0, r0), (16, r1), (7, r2), (10, r3), (11, r4), (8, r5), (17, r6), (6, r7), (9, r8), (1, r9), (12, r10), (20, r11), (28, r12), (37, r13), (51, r14), (56, r15), (62, r16), (4, r17), (5, r18)]
def c21 : VFn :=
 VFn.mk [some r0, some r9] (.seq (.reg [.op (.P (.mv (.k (.int .i64 0)))) false (some r17),
  .op (.P (.mv (.k (.bool false)))) false (some r18)])
 (.seq (.reg [.op (.P (.mv (.k (.int .i64 1000)))) false (some r7)])
 (.seq (.reg [.op (.P (.mv (.k (.int .i64 0)))) false (some r2)])
 (.seq (.seq (.reg [.op (.P (.mv (.k (.int .i64 0)))) false (some r4)])
 (.block 0 (.loop (.seq (.reg [.op (.P (.cmi .lss (.sl r4) (.k (.int .i64 200)))) false (some r10)])
 (.seq (.cond (.sl r10) (.skip)
 (.exit 0))
 (.seq (.block 1 (.seq (.reg [.el,
  .op (.C (.iv [(132, 228)] (.sl r0) [(.k (.int .i64 400))])) true none,
  .op (.F (.al 41 [(.int .i64 0), (.int .i64 0), (.str 0 0), (.int .i64 0), (.int .i64 0), (.str 0 0), .nils, .nils])) false (some r5),
  .op (.W (.st 8 (.sl r5) (.st 0))) false none])
 (.seq (.reg [.op (.P (.fa 0 (.sl r5))) true none,
  .op (.R (.ld 1 false (.st 0))) false (some r1)])
 (.block 2 (.seq (.seq (.reg [.op (.P (.cmi .eql (.sl r1) (.k (.int .i64 8)))) true none,
  .op (.P (.mv (.st 0))) false (some r6)])
 (.cond (.sl r6) (.skip)
 (.reg [.op (.P (.cmi .eql (.sl r1) (.k (.int .i64 9)))) true none,
  .op (.P (.mv (.st 0))) false (some r6)])))
 (.cond (.sl r6) (.seq (.reg [.op (.P (.mv (.k (.int .i64 0)))) false (some r17),
  .op (.P (.mv (.k (.bool false)))) false (some r18)])
 (.ret))
 (.seq (.reg [.op (.P (.cmi .eql (.sl r1) (.k (.int .i64 4)))) true none,
  .op (.P (.mv (.st 0))) false (some r11)])
 (.cond (.sl r11) (.seq (.reg [.op (.P (.mv (.sl r7))) true none,
  .op (.P (.ar .add (.st 0) (.k (.int .i64 1)))) true none,
  .op (.P (.mv (.st 0))) false (some r7)])
 (.reg [.el,
  .el,
  .op (.P (.bld [(.int .i64 0), (.int .i64 0), (.str 0 0), .nils] [(0, 1, (.k (.int .i64 6))), (1, 1, (.sl r7))])) true none,
  .op (.C (.iv [(132, 225)] (.sl r0) [(.st 0)])) false none]))
 (.seq (.reg [.op (.P (.cmi .eql (.sl r1) (.k (.int .i64 7)))) true none,
  .op (.P (.mv (.st 0))) false (some r12)])
 (.cond (.sl r12) (.seq (.reg [.op (.P (.mv (.k (.bool false)))) false (some r8)])
 (.seq (.block 3 (.loop (.seq (.seq (.reg [.el,
  .el,
  .op (.P (.ln 1 (.sl r9))) true none,
  .op (.P (.cmi .lss (.sl r2) (.st 0))) true none,
  .el,
  .op (.G (.st 0) true (.P (.mv (.sl r8)))) true none,
  .op (.G (.st 1) true (.P (.no (.st 0)))) true none,
  .op (.P (.pick (.st 2) (.st 0) (.k (.bool false)))) false (some r13)])
 (.cond (.sl r13) (.skip)
 (.exit 3)))
 (.block 4 (.seq (.reg [.el,
  .el,
  .op (.P (.ia 5 (.sl r9) (.sl r2))) true none,
  .op (.R (.ld 5 true (.st 0))) true none,
  .op (.F (.al 66 [(.int .i64 0), (.int .i64 0), (.int .i64 0), (.str 0 0), .nils])) false (some r3),
  .op (.W (.st 5 (.sl r3) (.st 0))) false none])
 (.seq (.reg [.op (.P (.mv (.sl r2))) true none,
  .op (.P (.ar .add (.st 0) (.k (.int .i64 1)))) true none,
  .op (.P (.mv (.st 0))) false (some r2)])
 (.seq (.reg [.op (.P (.fa 0 (.sl r3))) true none,
  .op (.R (.ld 1 false (.st 0))) true none,
  .op (.P (.cmi .eql (.st 0) (.k (.int .i64 1)))) true none,
  .el,
  .op (.G (.st 0) true (.P (.fa 1 (.sl r5)))) true none,
  .op (.G (.st 1) true (.R (.ld 1 false (.st 0)))) true none,
  .op (.G (.st 2) true (.P (.cmi .geq (.st 0) (.k (.int .i64 0))))) true none,
  .op (.P (.pick (.st 3) (.st 0) (.k (.bool false)))) false (some r14)])
 (.cond (.sl r14) (.seq (.reg [.el,
  .op (.C (.iv [(132, 226)] (.sl r0) [])) false none])
 (.reg [.op (.P (.mv (.k (.bool true)))) false (some r8)]))
 (.seq (.reg [.op (.P (.fa 0 (.sl r3))) true none,
  .op (.R (.ld 1 false (.st 0))) true none,
  .op (.P (.cmi .neq (.st 0) (.k (.int .i64 1)))) false (some r15)])
 (.cond (.sl r15) (.reg [.el,
  .op (.P (.fa 1 (.sl r3))) true none,
  .op (.R (.ld 4 true (.st 0))) true none,
  .op (.C (.iv [(132, 227)] (.sl r0) [(.st 0)])) true none,
  .op (.P (.mv (.st 0))) false (some r8)])
 (.skip)))))))))))
 (.seq (.reg [.el,
  .op (.P (.no (.sl r8))) false (some r16)])
 (.cond (.sl r16) (.seq (.reg [.el,
  .op (.P (.mv (.sl r2))) false (some r17),
  .op (.P (.mv (.k (.bool true)))) false (some r18)])
 (.ret))
 (.skip)))))
 (.skip)))))))))))
 (.reg [.op (.P (.ar .add (.sl r4) (.k (.int .i64 1)))) true none,
  .op (.P (.mv (.st 0))) false (some r4)])))))))
 (.seq (.reg [.op (.P (.mv (.k (.int .i64 0)))) false (some r17),
  .op (.P (.mv (.k (.bool false)))) false (some r18)])
 (.ret))))))
  [.sl (.sl r17), .sl (.sl r18)]

def m22 : SlotMap := [(0, r0), (4, r1), (2, r2)]
def c22 : VFn :=
 VFn.mk [some r0] (.seq (.reg [.op (.P (.mv (.k .nils))) false (some r2)])
 (.seq (.seq (.reg [.el,
  .op (.P (.cmn 1 false (.sl r0))) false (some r1)])
 (.cond (.sl r1) (.seq (.reg [.op (.P (.mv (.k .nils))) false (some r2)])
 (.ret))
 (.skip)))
 (.seq (.reg [.op (.F (.bsl 66 5 0 [] [])) true none,
  .el,
  .op (.W (.app 66 5 (.st 0) (.sl r0))) true none,
  .op (.P (.mv (.st 0))) false (some r2)])
 (.ret))))
  [.sl (.sl r2)]

def m24 : SlotMap := [(1, r0), (0, r1), (2, r2), (7, r3), (15, r4), (5, r5)]
def c24 : VFn :=
 VFn.mk [some r1, some r0, some r2] (.seq (.reg [.op (.F (.bx 93 (.sl r2))) false (some r5)])
 (.seq (.reg [.el,
  .el,
  .op (.R (.lk 1 true (.agg [(.str 0 0), (.int .i64 0)]) (.sl r1) (.sl r0))) true none,
  .el,
  .op (.P (.ext 0 (.st 0))) true none,
  .op (.P (.ext 1 (.st 1))) true none,
  .op (.F (.al 93 [(.str 0 0), (.int .i64 0)])) true none,
  .op (.W (.st 2 (.st 0) (.st 2))) false none,
  .op (.P (.mv (.st 1))) false (some r3)])
 (.seq (.reg [.el,
  .op (.P (.no (.sl r3))) false (some r4)])
 (.cond (.sl r4) (.reg [.el,
  .el,
  .op (.R (.ld 2 true (.sl r5))) true none,
  .op (.W (.mu 1 (.sl r1) (.sl r0) (.st 0))) false none])
 (.skip)))))
  []

def m25 : SlotMap := [(1, r0), (0, r1), (7, r2), (15, r3), (2, r4)]
def c25 : VFn :=
 VFn.mk [some r1, some r0, some r4] (.seq (.reg [.el,
  .el,
  .op (.R (.lk 1 true (.str 0 0) (.sl r1) (.sl r0))) true none,
  .el,
  .op (.P (.ext 0 (.st 0))) true none,
  .op (.P (.ext 1 (.st 1))) true none,
  .op (.P (.mv (.st 1))) false none,
  .op (.P (.mv (.st 0))) false (some r2)])
 (.seq (.reg [.el,
  .op (.P (.no (.sl r2))) false (some r3)])
 (.cond (.sl r3) (.reg [.el,
  .el,
  .el,
  .op (.W (.mu 1 (.sl r1) (.sl r0) (.sl r4))) false none])
 (.skip))))
  []

def m26 : SlotMap := [(1, r0), (0, r1), (2, r2), (7, r3), (15, r4), (5, r5)]
def c26 : VFn :=
 VFn.mk [some r1, some r0, some r2] (.seq (.reg [.op (.F (.bx 112 (.sl r2))) false (some r5)])
 (.seq (.reg [.el,
  .el,
  .op (.R (.lk 1 true (.agg [.nils, .nilp]) (.sl r1) (.sl r0))) true none,
  .el,
  .op (.P (.ext 0 (.st 0))) true none,
  .op (.P (.ext 1 (.st 1))) true none,
  .op (.F (.al 112 [.nils, .nilp])) true none,
  .op (.W (.st 2 (.st 0) (.st 2))) false none,
  .op (.P (.mv (.st 1))) false (some r3)])
 (.seq (.reg [.el,
  .op (.P (.no (.sl r3))) false (some r4)])
 (.cond (.sl r4) (.reg [.el,
  .el,
  .op (.R (.ld 2 true (.sl r5))) true none,
  .op (.W (.mu 1 (.sl r1) (.sl r0) (.st 0))) false none])
 (.skip)))))
  []

def m27 : SlotMap := [(4, r0), (1, r1), (0, r2), (3, r3)]
def c27 : VFn :=
 VFn.mk [some r2, some r1] (.seq (.reg [.op (.F (.bx 103 (.sl r1))) false (some r3),
  .op (.F (.al 112 [.nils, .nilp])) false (some r0)])
 (.seq (.dreg [(.q, .op (.P (.fa 2 (.sl r3))) true none),
  (.r 0 0, .op (.R (.ld 1 false (.st 0))) true none),
  (.h [], .op (.C (.cf 29 [(.st 0)])) true none),
  (.q, .op (.P (.mv (.sl r2))) true none),
  (.q, .op (.P (.fa 7 (.sl r3))) true none),
  (.r 0 1, .op (.R (.ld 8 true (.st 0))) true none),
  (.h [], .op (.C (.cf 30 [(.st 2), (.st 0)])) true none),
  (.q, .op (.P (.bld [.nils, .nilp] [(0, 1, (.st 4)), (1, 1, (.st 0))])) true none),
  (.h [], .op (.W (.st 2 (.sl r0) (.st 0))) false none)])
 (.ret)))
  [.cell (.sl r0) 2 true]

def m28 : SlotMap := [(1, r0), (0, r1), (2, r2), (7, r3), (15, r4), (5, r5)]
def c28 : VFn :=
 VFn.mk [some r1, some r0, some r2] (.seq (.reg [.op (.F (.bx 117 (.sl r2))) false (some r5)])
 (.seq (.reg [.el,
  .el,
  .op (.R (.lk 1 true (.agg [.nils, .nilp]) (.sl r1) (.sl r0))) true none,
  .el,
  .op (.P (.ext 0 (.st 0))) true none,
  .op (.P (.ext 1 (.st 1))) true none,
  .op (.F (.al 117 [.nils, .nilp])) true none,
  .op (.W (.st 2 (.st 0) (.st 2))) false none,
  .op (.P (.mv (.st 1))) false (some r3)])
 (.seq (.reg [.el,
  .op (.P (.no (.sl r3))) false (some r4)])
 (.cond (.sl r4) (.reg [.el,
  .el,
  .op (.R (.ld 2 true (.sl r5))) true none,
  .op (.W (.mu 1 (.sl r1) (.sl r0) (.st 0))) false none])
 (.skip)))))
  []

def m29 : SlotMap := [(0, r0), (4, r1), (2, r2)]
def c29 : VFn :=
 VFn.mk [some r0] (.seq (.reg [.op (.P (.mv (.k .nils))) false (some r2)])
 (.seq (.seq (.reg [.el,
  .op (.P (.cmn 1 false (.sl r0))) false (some r1)])
 (.cond (.sl r1) (.seq (.reg [.op (.P (.mv (.k .nils))) false (some r2)])
 (.ret))
 (.skip)))
 (.seq (.reg [.op (.F (.bsl 9 1 0 [] [])) true none,
  .el,
  .op (.W (.app 9 1 (.st 0) (.sl r0))) true none,
  .op (.P (.mv (.st 0))) false (some r2)])
 (.ret))))
  [.sl (.sl r2)]

def m30 : SlotMap := [(3, r0), (5, r1), (0, r2), (58, r3), (78, r4), (1, r5), (31, r6), (57, r7), (59, r8), (56, r9), (7, r10), (77, r11), (79, r12), (76, r13), (9, r14), (4, r15)]
def c30 : VFn :=
 VFn.mk [some r2, some r5] (.seq (.reg [.op (.F (.bx 101 (.sl r5))) false (some r0),
  .op (.P (.mv (.k .nilp))) false (some r15)])
 (.seq (.dreg [(.q, .op (.P (.fa 0 (.sl r0))) true none),
  (.r 0 2, .op (.R (.ld 1 false (.st 0))) true none),
  (.q, .op (.P (.fa 1 (.sl r0))) true none),
  (.r 0 2, .op (.R (.ld 1 false (.st 0))) true none),
  (.q, .op (.P (.fa 2 (.sl r0))) true none),
  (.r 0 2, .op (.R (.ld 1 false (.st 0))) true none),
  (.q, .op (.P (.fa 3 (.sl r0))) true none),
  (.r 0 0, .op (.R (.ld 1 false (.st 0))) true none),
  (.h [], .op (.C (.cf 29 [(.st 0)])) true none),
  (.r 0 1, .op (.R (.ld 8 true (.sl r0))) true none),
  (.h [], .op (.C (.cf 45 [(.st 0)])) true none),
  (.q, .op (.P (.bld [(.int .i64 0), (.int .i64 0), (.str 0 0), .nils, .nils, .nils, (.int .i64 0), (.int .i64 0), .nils] [(0, 1, (.st 9)), (1, 1, (.st 7)), (2, 1, (.st 5)), (3, 1, (.st 2)), (6, 1, (.st 0))])) true none),
  (.h [], .op (.F (.bx 160 (.st 0))) true none),
  (.q, .op (.P (.mv (.st 0))) false (some r1))])
 (.seq (.seq (.reg [.op (.P (.fa 0 (.sl r0))) true none,
  .op (.R (.ld 1 false (.st 0))) true none,
  .op (.P (.cmi .eql (.st 0) (.k (.int .i64 10)))) true none,
  .el,
  .op (.G (.st 0) true (.P (.fa 5 (.sl r0)))) true none,
  .op (.G (.st 1) true (.R (.ld 1 false (.st 0)))) true none,
  .op (.G (.st 2) true (.P (.ln 1 (.st 0)))) true none,
  .op (.G (.st 3) true (.P (.cmi .gtr (.st 0) (.k (.int .i64 0))))) true none,
  .op (.P (.pick (.st 4) (.st 0) (.k (.bool false)))) false (some r6)])
 (.cond (.sl r6) (.seq (.dreg [(.q, .op (.P (.mv (.sl r1))) true none),
  (.q, .op (.P (.mv (.sl r1))) true none),
  (.q, .op (.P (.mv (.sl r2))) true none),
  (.q, .op (.P (.nn (.st 0))) true none),
  (.q, .op (.P (.fa 0 (.st 0))) true none),
  (.r 0 1, .op (.R (.ld 1 false (.st 0))) true none),
  (.q, .op (.P (.ln 1 (.st 0))) true none),
  (.r 0 0, .op (.R (.ld 8 true (.sl r0))) true none),
  (.h [], .op (.C (.cf 46 [(.st 0)])) true none),
  (.q, .op (.P (.nn (.st 8))) true none),
  (.q, .op (.P (.fa 7 (.st 0))) true none),
  (.h [], .op (.W (.st 1 (.st 0) (.st 4))) false none),
  (.q, .op (.P (.nn (.st 9))) true none),
  (.q, .op (.P (.fa 8 (.st 0))) true none),
  (.h [], .op (.W (.st 1 (.st 0) (.st 4))) false none)])
 (.reg [.el,
  .el,
  .op (.P (.nn (.sl r2))) true none,
  .op (.P (.fa 0 (.st 0))) true none,
  .op (.R (.ld 1 false (.st 0))) true none,
  .el,
  .op (.F (.bsl 110 1 1 [.nilp] [(0, 1, (.sl r1))])) true none,
  .op (.W (.app 110 1 (.st 1) (.st 0))) true none,
  .op (.P (.nn (.sl r2))) true none,
  .op (.P (.fa 0 (.st 0))) true none,
  .op (.W (.st 1 (.st 0) (.st 2))) false none]))
 (.skip)))
 (.seq (.seq (.reg [.op (.P (.fa 5 (.sl r0))) true none,
  .op (.R (.ld 1 false (.st 0))) false (some r9),
  .op (.P (.ln 1 (.sl r9))) false (some r7),
  .op (.P (.mv (.k (.int .i64 0)))) false (some r3)])
 (.block 0 (.loop (.seq (.reg [.op (.P (.cmi .lss (.sl r3) (.sl r7))) false (some r8)])
 (.seq (.cond (.sl r8) (.skip)
 (.exit 0))
 (.seq (.block 1 (.seq (.reg [.op (.P (.ia 8 (.sl r9) (.sl r3))) true none,
  .op (.R (.ld 8 true (.st 0))) true none,
  .op (.F (.al 101 [(.int .i64 0), (.int .i64 0), (.str 0 0), .nils, .nils, .nils, .nils, (.int .i64 0)])) false (some r10),
  .op (.W (.st 8 (.sl r10) (.st 0))) false none])
 (.dreg [(.q, .op (.P (.mv (.sl r1))) true none),
  (.q, .op (.P (.mv (.sl r1))) true none),
  (.q, .op (.P (.nn (.st 0))) true none),
  (.q, .op (.P (.fa 4 (.st 0))) true none),
  (.r 0 1, .op (.R (.ld 1 false (.st 0))) true none),
  (.q, .op (.P (.mv (.sl r2))) true none),
  (.r 0 0, .op (.R (.ld 8 true (.sl r10))) true none),
  (.h [], .op (.C (.cf 30 [(.st 1), (.st 0)])) true none),
  (.f, .op (.F (.bsl 110 1 1 [.nilp] [(0, 1, (.st 0))])) true none),
  (.h [8], .op (.W (.app 110 1 (.st 4) (.st 0))) true none),
  (.q, .op (.P (.nn (.st 9))) true none),
  (.q, .op (.P (.fa 4 (.st 0))) true none),
  (.h [8], .op (.W (.st 1 (.st 0) (.st 2))) false none)])))
 (.reg [.op (.P (.ar .add (.sl r3) (.k (.int .i64 1)))) true none,
  .op (.P (.mv (.st 0))) false (some r3)])))))))
 (.seq (.seq (.reg [.op (.P (.fa 6 (.sl r0))) true none,
  .op (.R (.ld 1 false (.st 0))) false (some r13),
  .op (.P (.ln 1 (.sl r13))) false (some r11),
  .op (.P (.mv (.k (.int .i64 0)))) false (some r4)])
 (.block 2 (.loop (.seq (.reg [.op (.P (.cmi .lss (.sl r4) (.sl r11))) false (some r12)])
 (.seq (.cond (.sl r12) (.skip)
 (.exit 2))
 (.seq (.block 3 (.seq (.reg [.op (.P (.ia 12 (.sl r13) (.sl r4))) true none,
  .op (.R (.ld 12 true (.st 0))) true none,
  .op (.F (.al 166 [(.int .i64 0), (.int .i64 0), (.str 0 0), .nils, (.int .i64 0), (.int .i64 0), (.str 0 0), .nils, .nils, .nils, .nils, (.int .i64 0)])) false (some r14),
  .op (.W (.st 12 (.sl r14) (.st 0))) false none])
 (.dreg [(.q, .op (.P (.mv (.sl r1))) true none),
  (.q, .op (.P (.mv (.sl r1))) true none),
  (.q, .op (.P (.nn (.st 0))) true none),
  (.q, .op (.P (.fa 5 (.st 0))) true none),
  (.r 0 2, .op (.R (.ld 1 false (.st 0))) true none),
  (.q, .op (.P (.fa 0 (.sl r14))) true none),
  (.r 0 0, .op (.R (.ld 4 true (.st 0))) true none),
  (.h [], .op (.C (.cf 47 [(.st 0)])) true none),
  (.q, .op (.P (.mv (.sl r2))) true none),
  (.q, .op (.P (.fa 4 (.sl r14))) true none),
  (.r 0 1, .op (.R (.ld 8 true (.st 0))) true none),
  (.h [], .op (.C (.cf 30 [(.st 2), (.st 0)])) true none),
  (.q, .op (.P (.bld [(.int .i64 0), (.int .i64 0), (.str 0 0), .nils, .nilp] [(0, 4, (.st 4)), (4, 1, (.st 0))])) true none),
  (.f, .op (.F (.bsl 169 5 1 [(.int .i64 0), (.int .i64 0), (.str 0 0), .nils, .nilp] [(0, 5, (.st 0))])) true none),
  (.h [13], .op (.W (.app 169 5 (.st 9) (.st 0))) true none),
  (.q, .op (.P (.nn (.st 14))) true none),
  (.q, .op (.P (.fa 5 (.st 0))) true none),
  (.h [13], .op (.W (.st 1 (.st 0) (.st 2))) false none)])))
 (.reg [.op (.P (.ar .add (.sl r4) (.k (.int .i64 1)))) true none,
  .op (.P (.mv (.st 0))) false (some r4)])))))))
 (.seq (.reg [.el,
  .op (.P (.mv (.sl r1))) false (some r15)])
 (.ret)))))))
  [.sl (.sl r15)]

def m31 : SlotMap := [(0, r0), (1, r1), (9, r2), (4, r3)]
def c31 : VFn :=
 VFn.mk [some r0, some r1] (.seq (.reg [.op (.P (.mv (.k (.int .i64 0)))) false (some r3)])
 (.seq (.reg [.op (.P (.mv (.sl r0))) true none,
  .el,
  .op (.P (.ar .rem (.st 0) (.sl r1))) true none,
  .op (.P (.mv (.st 0))) false (some r0)])
 (.seq (.seq (.reg [.el,
  .op (.P (.cmi .lss (.sl r0) (.k (.int .i64 0)))) false (some r2)])
 (.cond (.sl r2) (.reg [.op (.P (.mv (.sl r0))) true none,
  .el,
  .op (.P (.ar .add (.st 0) (.sl r1))) true none,
  .op (.P (.mv (.st 0))) false (some r0)])
 (.skip)))
 (.seq (.reg [.el,
  .op (.P (.mv (.sl r0))) false (some r3)])
 (.ret)))))
  [.sl (.sl r3)]

def m32 : SlotMap := [(11, r0), (3, r1), (24, r2), (1, r3), (0, r4), (10, r5), (12, r6), (9, r7), (5, r8), (23, r9), (25, r10), (22, r11), (7, r12), (2, r13)]
def c32 : VFn :=
 VFn.mk [some r4] (.seq (.reg [.op (.F (.bx 30 (.sl r4))) false (some r3),
  .op (.P (.mv (.k .nils))) false (some r13)])
 (.seq (.reg [.op (.P (.mv (.k .nils))) false (some r1)])
 (.seq (.seq (.reg [.op (.R (.ld 8 true (.sl r3))) true none,
  .op (.C (.cf 48 [(.st 0)])) false (some r7),
  .op (.P (.ln 1 (.sl r7))) false (some r5),
  .op (.P (.mv (.k (.int .i64 0)))) false (some r0)])
 (.block 0 (.loop (.seq (.reg [.op (.P (.cmi .lss (.sl r0) (.sl r5))) false (some r6)])
 (.seq (.cond (.sl r6) (.skip)
 (.exit 0))
 (.seq (.block 1 (.seq (.reg [.op (.P (.ia 15 (.sl r7) (.sl r0))) true none,
  .op (.R (.ld 15 true (.st 0))) true none,
  .op (.F (.al 103 [(.str 0 0), .nils, .nils, .nils, (.int .i64 0), (.str 0 0), .nils, (.int .i64 0), (.int .i64 0), (.str 0 0), .nils, .nils, .nils, .nils, (.int .i64 0)])) false (some r8),
  .op (.W (.st 15 (.sl r8) (.st 0))) false none])
 (.reg [.op (.P (.mv (.sl r1))) true none,
  .op (.P (.fa 7 (.sl r8))) true none,
  .op (.R (.ld 8 true (.st 0))) true none,
  .op (.F (.bsl 101 8 1 [(.int .i64 0), (.int .i64 0), (.str 0 0), .nils, .nils, .nils, .nils, (.int .i64 0)] [(0, 8, (.st 0))])) true none,
  .op (.W (.app 101 8 (.st 3) (.st 0))) true none,
  .op (.P (.mv (.st 0))) false (some r1)])))
 (.reg [.op (.P (.ar .add (.sl r0) (.k (.int .i64 1)))) true none,
  .op (.P (.mv (.st 0))) false (some r0)])))))))
 (.seq (.seq (.reg [.op (.P (.fa 7 (.sl r3))) true none,
  .op (.R (.ld 1 false (.st 0))) false (some r11),
  .op (.P (.ln 1 (.sl r11))) false (some r9),
  .op (.P (.mv (.k (.int .i64 0)))) false (some r2)])
 (.block 2 (.loop (.seq (.reg [.op (.P (.cmi .lss (.sl r2) (.sl r9))) false (some r10)])
 (.seq (.cond (.sl r10) (.skip)
 (.exit 2))
 (.seq (.block 3 (.seq (.reg [.op (.P (.ia 14 (.sl r11) (.sl r2))) true none,
  .op (.R (.ld 14 true (.st 0))) true none,
  .op (.F (.al 115 [(.str 0 0), .nils, .nils, (.int .i64 0), (.str 0 0), .nils, (.int .i64 0), (.int .i64 0), (.str 0 0), .nils, .nils, .nils, .nils, (.int .i64 0)])) false (some r12),
  .op (.W (.st 14 (.sl r12) (.st 0))) false none])
 (.reg [.op (.P (.mv (.sl r1))) true none,
  .op (.P (.fa 6 (.sl r12))) true none,
  .op (.R (.ld 8 true (.st 0))) true none,
  .op (.F (.bsl 101 8 1 [(.int .i64 0), (.int .i64 0), (.str 0 0), .nils, .nils, .nils, .nils, (.int .i64 0)] [(0, 8, (.st 0))])) true none,
  .op (.W (.app 101 8 (.st 3) (.st 0))) true none,
  .op (.P (.mv (.st 0))) false (some r1)])))
 (.reg [.op (.P (.ar .add (.sl r2) (.k (.int .i64 1)))) true none,
  .op (.P (.mv (.st 0))) false (some r2)])))))))
 (.seq (.reg [.el,
  .op (.P (.mv (.sl r1))) false (some r13)])
 (.ret))))))
  [.sl (.sl r13)]

def m33 : SlotMap := [(11, r0), (3, r1), (20, r2), (0, r3), (1, r4), (10, r5), (12, r6), (9, r7), (5, r8), (19, r9), (21, r10), (18, r11), (7, r12), (2, r13)]
def c33 : VFn :=
 VFn.mk [some r3] (.seq (.reg [.op (.F (.bx 101 (.sl r3))) false (some r4),
  .op (.P (.mv (.k (.int .i64 0)))) false (some r13)])
 (.seq (.reg [.op (.P (.mv (.k (.int .i64 0)))) false (some r1)])
 (.seq (.seq (.reg [.op (.R (.ld 8 true (.sl r4))) true none,
  .op (.C (.cf 49 [(.st 0)])) false (some r7),
  .op (.P (.ln 1 (.sl r7))) false (some r5),
  .op (.P (.mv (.k (.int .i64 0)))) false (some r0)])
 (.block 0 (.loop (.seq (.reg [.op (.P (.cmi .lss (.sl r0) (.sl r5))) false (some r6)])
 (.seq (.cond (.sl r6) (.skip)
 (.exit 0))
 (.seq (.block 1 (.seq (.reg [.op (.P (.ia 8 (.sl r7) (.sl r0))) true none,
  .op (.R (.ld 8 true (.st 0))) true none,
  .op (.F (.al 101 [(.int .i64 0), (.int .i64 0), (.str 0 0), .nils, .nils, .nils, .nils, (.int .i64 0)])) false (some r8),
  .op (.W (.st 8 (.sl r8) (.st 0))) false none])
 (.seq (.reg [.op (.P (.mv (.sl r1))) true none,
  .op (.P (.ar .add (.st 0) (.k (.int .i64 1)))) true none,
  .op (.P (.mv (.st 0))) false (some r1)])
 (.seq (.reg [.op (.P (.fa 6 (.sl r8))) true none,
  .op (.R (.ld 1 false (.st 0))) false (some r11),
  .op (.P (.ln 1 (.sl r11))) false (some r9),
  .op (.P (.mv (.k (.int .i64 0)))) false (some r2)])
 (.block 2 (.loop (.seq (.reg [.op (.P (.cmi .lss (.sl r2) (.sl r9))) false (some r10)])
 (.seq (.cond (.sl r10) (.skip)
 (.exit 2))
 (.seq (.block 3 (.seq (.reg [.op (.P (.ia 12 (.sl r11) (.sl r2))) true none,
  .op (.R (.ld 12 true (.st 0))) true none,
  .op (.F (.al 166 [(.int .i64 0), (.int .i64 0), (.str 0 0), .nils, (.int .i64 0), (.int .i64 0), (.str 0 0), .nils, .nils, .nils, .nils, (.int .i64 0)])) false (some r12),
  .op (.W (.st 12 (.sl r12) (.st 0))) false none])
 (.reg [.op (.P (.mv (.sl r1))) true none,
  .op (.P (.fa 0 (.sl r12))) true none,
  .op (.R (.ld 4 true (.st 0))) true none,
  .op (.C (.cf 50 [(.st 0)])) true none,
  .op (.P (.ln 1 (.st 0))) true none,
  .op (.P (.ar .add (.st 4) (.st 0))) true none,
  .op (.P (.mv (.st 0))) false (some r1)])))
 (.reg [.op (.P (.ar .add (.sl r2) (.k (.int .i64 1)))) true none,
  .op (.P (.mv (.st 0))) false (some r2)]))))))))))
 (.reg [.op (.P (.ar .add (.sl r0) (.k (.int .i64 1)))) true none,
  .op (.P (.mv (.st 0))) false (some r0)])))))))
 (.seq (.reg [.el,
  .op (.P (.mv (.sl r1))) false (some r13)])
 (.ret)))))
  [.sl (.sl r13)]

def m34 : SlotMap := [(17, r0), (1, r1), (0, r2), (14, r3), (16, r4), (18, r5), (15, r6), (7, r7), (9, r8), (8, r9), (2, r10), (30, r11), (6, r12)]
def c34 : VFn :=
 VFn.mk [some r2, some r1, some r10] (.seq (.reg [.op (.P (.mv (.k (.bool false)))) false (some r12)])
 (.seq (.seq (.reg [.el,
  .op (.P (.ln 1 (.sl r2))) true none,
  .el,
  .op (.P (.ln 1 (.sl r1))) true none,
  .op (.P (.cmi .neq (.st 1) (.st 0))) false (some r3)])
 (.cond (.sl r3) (.seq (.reg [.op (.P (.mv (.k (.bool false)))) false (some r12)])
 (.ret))
 (.skip)))
 (.seq (.seq (.reg [.op (.P (.mv (.sl r2))) false (some r6),
  .op (.P (.ln 1 (.sl r6))) false (some r4),
  .op (.P (.mv (.k (.int .i64 0)))) false (some r0)])
 (.block 0 (.loop (.seq (.reg [.op (.P (.cmi .lss (.sl r0) (.sl r4))) false (some r5)])
 (.seq (.cond (.sl r5) (.skip)
 (.exit 0))
 (.seq (.block 1 (.seq (.reg [.el,
  .op (.P (.ia 8 (.sl r6) (.sl r0))) true none,
  .op (.R (.ld 8 true (.st 0))) true none,
  .op (.F (.al 41 [(.int .i64 0), (.int .i64 0), (.str 0 0), (.int .i64 0), (.int .i64 0), (.str 0 0), .nils, .nils])) false (some r9),
  .op (.P (.mv (.sl r0))) false (some r7),
  .op (.W (.st 8 (.sl r9) (.st 0))) false none])
 (.seq (.reg [.el,
  .el,
  .op (.P (.ia 8 (.sl r1) (.sl r7))) true none,
  .op (.R (.ld 8 true (.st 0))) true none,
  .op (.F (.al 41 [(.int .i64 0), (.int .i64 0), (.str 0 0), (.int .i64 0), (.int .i64 0), (.str 0 0), .nils, .nils])) false (some r8),
  .op (.W (.st 8 (.sl r8) (.st 0))) false none])
 (.seq (.reg [.el,
  .op (.R (.ld 8 true (.sl r9))) true none,
  .op (.R (.ld 8 true (.sl r8))) true none,
  .op (.C (.cv (.sl r10) [(.st 1), (.st 0)])) true none,
  .op (.P (.no (.st 0))) false (some r11)])
 (.cond (.sl r11) (.seq (.reg [.op (.P (.mv (.k (.bool false)))) false (some r12)])
 (.ret))
 (.skip))))))
 (.reg [.op (.P (.ar .add (.sl r0) (.k (.int .i64 1)))) true none,
  .op (.P (.mv (.st 0))) false (some r0)])))))))
 (.seq (.reg [.op (.P (.mv (.k (.bool true)))) false (some r12)])
 (.ret)))))
  [.sl (.sl r12)]

def m35 : SlotMap := [(1, r0), (0, r1), (3, r2), (2, r3), (4, r4)]
def c35 : VFn :=
 VFn.mk [some r1, some r0] (.seq (.reg [.op (.F (.bx 41 (.sl r1))) false (some r3),
  .op (.F (.bx 41 (.sl r0))) false (some r2),
  .op (.P (.mv (.k (.bool false)))) false (some r4)])
 (.seq (.reg [.op (.P (.fa 0 (.sl r3))) true none,
  .op (.R (.ld 1 false (.st 0))) true none,
  .op (.P (.fa 0 (.sl r2))) true none,
  .op (.R (.ld 1 false (.st 0))) true none,
  .op (.P (.cmi .eql (.st 2) (.st 0))) true none,
  .el,
  .op (.G (.st 0) true (.P (.fa 1 (.sl r3)))) true none,
  .op (.G (.st 1) true (.R (.ld 1 false (.st 0)))) true none,
  .op (.G (.st 2) true (.P (.fa 1 (.sl r2)))) true none,
  .op (.G (.st 3) true (.R (.ld 1 false (.st 0)))) true none,
  .op (.G (.st 4) true (.P (.cmi .eql (.st 2) (.st 0)))) true none,
  .op (.P (.pick (.st 5) (.st 0) (.k (.bool false)))) true none,
  .el,
  .op (.G (.st 0) true (.P (.fa 2 (.sl r3)))) true none,
  .op (.G (.st 1) true (.R (.ld 1 false (.st 0)))) true none,
  .op (.G (.st 2) true (.P (.fa 2 (.sl r2)))) true none,
  .op (.G (.st 3) true (.R (.ld 1 false (.st 0)))) true none,
  .op (.G (.st 4) true (.P (.cms .eql (.st 2) (.st 0)))) true none,
  .op (.P (.pick (.st 5) (.st 0) (.k (.bool false)))) true none,
  .el,
  .op (.G (.st 0) true (.P (.fa 3 (.sl r3)))) true none,
  .op (.G (.st 1) true (.R (.ld 4 true (.st 0)))) true none,
  .op (.G (.st 2) true (.P (.fa 3 (.sl r2)))) true none,
  .op (.G (.st 3) true (.R (.ld 4 true (.st 0)))) true none,
  .op (.G (.st 4) true (.C (.cf 19 [(.st 2), (.st 0)]))) true none,
  .op (.P (.pick (.st 5) (.st 0) (.k (.bool false)))) true none,
  .el,
  .op (.G (.st 0) true (.P (.fa 7 (.sl r3)))) true none,
  .op (.G (.st 1) true (.R (.ld 1 false (.st 0)))) true none,
  .op (.G (.st 2) true (.P (.fa 7 (.sl r2)))) true none,
  .op (.G (.st 3) true (.R (.ld 1 false (.st 0)))) true none,
  .op (.G (.st 4) true (.C (.cf 36 [(.st 2), (.st 0), (.k (.fn 19 [] []))]))) true none,
  .op (.P (.pick (.st 5) (.st 0) (.k (.bool false)))) true none,
  .op (.P (.mv (.st 0))) false (some r4)])
 (.ret)))
  [.sl (.sl r4)]

def m36 : SlotMap := [(17, r0), (1, r1), (0, r2), (14, r3), (16, r4), (18, r5), (15, r6), (7, r7), (9, r8), (8, r9), (2, r10), (30, r11), (6, r12)]
def c36 : VFn :=
 VFn.mk [some r2, some r1, some r10] (.seq (.reg [.op (.P (.mv (.k (.bool false)))) false (some r12)])
 (.seq (.seq (.reg [.el,
  .op (.P (.ln 1 (.sl r2))) true none,
  .el,
  .op (.P (.ln 1 (.sl r1))) true none,
  .op (.P (.cmi .neq (.st 1) (.st 0))) false (some r3)])
 (.cond (.sl r3) (.seq (.reg [.op (.P (.mv (.k (.bool false)))) false (some r12)])
 (.ret))
 (.skip)))
 (.seq (.seq (.reg [.op (.P (.mv (.sl r2))) false (some r6),
  .op (.P (.ln 1 (.sl r6))) false (some r4),
  .op (.P (.mv (.k (.int .i64 0)))) false (some r0)])
 (.block 0 (.loop (.seq (.reg [.op (.P (.cmi .lss (.sl r0) (.sl r4))) false (some r5)])
 (.seq (.cond (.sl r5) (.skip)
 (.exit 0))
 (.seq (.block 1 (.seq (.reg [.el,
  .op (.P (.ia 4 (.sl r6) (.sl r0))) true none,
  .op (.R (.ld 4 true (.st 0))) true none,
  .op (.F (.al 39 [(.int .i64 0), (.int .i64 0), (.str 0 0), .nils])) false (some r9),
  .op (.P (.mv (.sl r0))) false (some r7),
  .op (.W (.st 4 (.sl r9) (.st 0))) false none])
 (.seq (.reg [.el,
  .el,
  .op (.P (.ia 4 (.sl r1) (.sl r7))) true none,
  .op (.R (.ld 4 true (.st 0))) true none,
  .op (.F (.al 39 [(.int .i64 0), (.int .i64 0), (.str 0 0), .nils])) false (some r8),
  .op (.W (.st 4 (.sl r8) (.st 0))) false none])
 (.seq (.reg [.el,
  .op (.R (.ld 4 true (.sl r9))) true none,
  .op (.R (.ld 4 true (.sl r8))) true none,
  .op (.C (.cv (.sl r10) [(.st 1), (.st 0)])) true none,
  .op (.P (.no (.st 0))) false (some r11)])
 (.cond (.sl r11) (.seq (.reg [.op (.P (.mv (.k (.bool false)))) false (some r12)])
 (.ret))
 (.skip))))))
 (.reg [.op (.P (.ar .add (.sl r0) (.k (.int .i64 1)))) true none,
  .op (.P (.mv (.st 0))) false (some r0)])))))))
 (.seq (.reg [.op (.P (.mv (.k (.bool true)))) false (some r12)])
 (.ret)))))
  [.sl (.sl r12)]

def m37 : SlotMap := [(13, r0), (6, r1), (0, r2), (12, r3), (14, r4), (11, r5), (1, r6), (8, r7), (10, r8), (24, r9), (9, r10), (4, r11), (5, r12)]
def c37 : VFn :=
 VFn.mk [some r2, some r6] (.seq (.reg [.op (.P (.mv (.k .nils))) false (some r11),
  .op (.P (.mv (.k (.bool false)))) false (some r12)])
 (.seq (.reg [.op (.P (.mv (.k .nils))) false (some r1)])
 (.seq (.seq (.reg [.op (.P (.mv (.sl r2))) false (some r5),
  .op (.P (.ln 1 (.sl r5))) false (some r3),
  .op (.P (.mv (.k (.int .i64 0)))) false (some r0)])
 (.block 0 (.loop (.seq (.reg [.op (.P (.cmi .lss (.sl r0) (.sl r3))) false (some r4)])
 (.seq (.cond (.sl r4) (.skip)
 (.exit 0))
 (.seq (.block 1 (.seq (.reg [.op (.P (.ia 4 (.sl r5) (.sl r0))) true none,
  .op (.R (.ld 4 true (.st 0))) true none,
  .op (.F (.al 39 [(.int .i64 0), (.int .i64 0), (.str 0 0), .nils])) false (some r7),
  .op (.W (.st 4 (.sl r7) (.st 0))) false none])
 (.seq (.reg [.op (.R (.ld 4 true (.sl r7))) true none,
  .el,
  .op (.C (.cf 51 [(.st 0), (.sl r6)])) true none,
  .el,
  .op (.P (.ext 0 (.st 0))) true none,
  .op (.P (.ext 1 (.st 1))) true none,
  .op (.F (.al 139 [(.int .i64 0), (.int .i64 0), (.str 0 0), .nils, .nilp])) false (some r10),
  .op (.W (.st 5 (.sl r10) (.st 1))) false none,
  .op (.P (.mv (.st 0))) false (some r8)])
 (.seq (.seq (.reg [.el,
  .op (.P (.no (.sl r8))) false (some r9)])
 (.cond (.sl r9) (.seq (.reg [.op (.P (.mv (.k .nils))) false (some r11),
  .op (.P (.mv (.k (.bool false)))) false (some r12)])
 (.ret))
 (.skip)))
 (.reg [.op (.P (.mv (.sl r1))) true none,
  .op (.R (.ld 5 true (.sl r10))) true none,
  .op (.F (.bsl 139 5 1 [(.int .i64 0), (.int .i64 0), (.str 0 0), .nils, .nilp] [(0, 5, (.st 0))])) true none,
  .op (.W (.app 139 5 (.st 2) (.st 0))) true none,
  .op (.P (.mv (.st 0))) false (some r1)])))))
 (.reg [.op (.P (.ar .add (.sl r0) (.k (.int .i64 1)))) true none,
  .op (.P (.mv (.st 0))) false (some r0)])))))))
 (.seq (.reg [.el,
  .op (.P (.mv (.sl r1))) false (some r11),
  .op (.P (.mv (.k (.bool true)))) false (some r12)])
 (.ret)))))
  [.sl (.sl r11), .sl (.sl r12)]

def m38 : SlotMap := [(3, r0), (1, r1), (0, r2), (38, r3), (7, r4), (6, r5), (4, r6), (5, r7)]
def c38 : VFn :=
 VFn.mk [some r2, some r1] (.seq (.reg [.op (.F (.bx 39 (.sl r1))) false (some r0),
  .op (.P (.mv (.k (.str 0 0)))) false (some r6),
  .op (.P (.mv (.k (.bool false)))) false (some r7)])
 (.seq (.seq (.dreg [(.q, .op (.P (.fa 1 (.sl r0))) true none),
  (.r 0 0, .op (.R (.ld 1 false (.st 0))) true none),
  (.q, .op (.P (.cmi .lss (.st 0) (.k (.int .i64 0)))) true none),
  (.q, .op (.P (.mv (.st 0))) true none),
  (.q, .op (.G (.st 0) false (.P (.fa 1 (.sl r0)))) true none),
  (.r 0 0, .op (.G (.st 1) false (.R (.ld 1 false (.st 0)))) true none),
  (.q, .op (.G (.st 2) false (.P (.mv (.sl r2)))) true none),
  (.q, .op (.G (.st 3) false (.P (.nn (.st 0)))) true none),
  (.q, .op (.G (.st 4) false (.P (.fa 0 (.st 0)))) true none),
  (.r 0 0, .op (.G (.st 5) false (.R (.ld 1 false (.st 0)))) true none),
  (.q, .op (.G (.st 6) false (.P (.ln 1 (.st 0)))) true none),
  (.q, .op (.G (.st 7) false (.P (.cmi .geq (.st 5) (.st 0)))) true none),
  (.q, .op (.P (.pick (.st 8) (.k (.bool true)) (.st 0))) true none),
  (.q, .op (.P (.mv (.st 0))) true none),
  (.q, .op (.G (.st 0) false (.P (.fa 2 (.sl r0)))) true none),
  (.r 0 0, .op (.G (.st 1) false (.R (.ld 1 false (.st 0)))) true none),
  (.q, .op (.G (.st 2) false (.P (.ln 0 (.st 0)))) true none),
  (.q, .op (.G (.st 3) false (.P (.mv (.sl r2)))) true none),
  (.q, .op (.G (.st 4) false (.P (.nn (.st 0)))) true none),
  (.q, .op (.G (.st 5) false (.P (.fa 0 (.st 0)))) true none),
  (.r 0 0, .op (.G (.st 6) false (.R (.ld 1 false (.st 0)))) true none),
  (.q, .op (.G (.st 7) false (.P (.fa 1 (.sl r0)))) true none),
  (.r 0 0, .op (.G (.st 8) false (.R (.ld 1 false (.st 0)))) true none),
  (.q, .op (.G (.st 9) false (.P (.ia 1 (.st 2) (.st 0)))) true none),
  (.r 0 0, .op (.G (.st 10) false (.R (.ld 1 false (.st 0)))) true none),
  (.q, .op (.G (.st 11) false (.P (.nn (.st 0)))) true none),
  (.q, .op (.G (.st 12) false (.P (.fa 8 (.st 0)))) true none),
  (.r 0 0, .op (.G (.st 13) false (.R (.ld 1 false (.st 0)))) true none),
  (.q, .op (.G (.st 14) false (.P (.ln 1 (.st 0)))) true none),
  (.q, .op (.G (.st 15) false (.P (.cmi .neq (.st 12) (.st 0)))) true none),
  (.q, .op (.P (.pick (.st 16) (.k (.bool true)) (.st 0))) false (some r3))])
 (.cond (.sl r3) (.seq (.reg [.op (.P (.mv (.k (.str 0 0)))) false (some r6),
  .op (.P (.mv (.k (.bool false)))) false (some r7)])
 (.ret))
 (.skip)))
 (.seq (.dreg [(.q, .op (.P (.fa 2 (.sl r0))) true none),
  (.r 0 0, .op (.R (.ld 1 false (.st 0))) true none),
  (.h [], .op (.C (.cf 52 [(.st 0), (.k (.str 1 49))])) true none),
  (.q, .op (.P (.fa 2 (.sl r0))) true none),
  (.r 0 1, .op (.R (.ld 1 false (.st 0))) true none),
  (.h [], .op (.C (.cf 52 [(.st 0), (.k (.str 1 48))])) true none),
  (.q, .op (.P (.mv (.st 3))) false (some r5)),
  (.q, .op (.P (.mv (.st 0))) false (some r4))])
 (.seq (.dreg [(.q, .op (.P (.fa 2 (.sl r0))) true none),
  (.r 0 0, .op (.R (.ld 1 false (.st 0))) true none),
  (.q, .op (.P (.mv (.sl r5))) true none),
  (.q, .op (.P (.mv (.sl r4))) true none),
  (.q, .op (.P (.ar .add (.st 1) (.st 0))) true none),
  (.q, .op (.P (.fa 2 (.sl r0))) true none),
  (.r 0 0, .op (.R (.ld 1 false (.st 0))) true none),
  (.q, .op (.P (.ln 0 (.st 0))) true none),
  (.q, .op (.P (.cmi .eql (.st 3) (.st 0))) true none),
  (.q, .op (.P (.mv (.st 0))) true none),
  (.q, .op (.G (.st 0) true (.P (.mv (.sl r5)))) true none),
  (.q, .op (.G (.st 1) true (.P (.fa 3 (.sl r0)))) true none),
  (.r 0 0, .op (.G (.st 2) true (.R (.ld 1 false (.st 0)))) true none),
  (.q, .op (.G (.st 3) true (.P (.ln 1 (.st 0)))) true none),
  (.q, .op (.G (.st 4) true (.P (.cmi .eql (.st 3) (.st 0)))) true none),
  (.q, .op (.P (.pick (.st 5) (.st 0) (.k (.bool false)))) true none),
  (.q, .op (.P (.mv (.st 14))) false (some r6)),
  (.q, .op (.P (.mv (.st 0))) false (some r7))])
 (.ret)))))
  [.sl (.sl r6), .sl (.sl r7)]

def m39 : SlotMap := [(7, r0), (0, r1), (6, r2), (8, r3), (5, r4), (4, r5), (12, r6), (2, r7)]
def c39 : VFn :=
 VFn.mk [some r1] (.seq (.reg [.op (.P (.mv (.k (.bool false)))) false (some r7)])
 (.seq (.seq (.reg [.op (.P (.mv (.sl r1))) false (some r4),
  .op (.P (.ln 1 (.sl r4))) false (some r2),
  .op (.P (.mv (.k (.int .i64 0)))) false (some r0)])
 (.block 0 (.loop (.seq (.reg [.op (.P (.cmi .lss (.sl r0) (.sl r2))) false (some r3)])
 (.seq (.cond (.sl r3) (.skip)
 (.exit 0))
 (.seq (.block 1 (.seq (.reg [.op (.P (.ia 5 (.sl r4) (.sl r0))) true none,
  .op (.R (.ld 5 true (.st 0))) true none,
  .op (.F (.al 139 [(.int .i64 0), (.int .i64 0), (.str 0 0), .nils, .nilp])) false (some r5),
  .op (.W (.st 5 (.sl r5) (.st 0))) false none])
 (.seq (.reg [.op (.R (.ld 5 true (.sl r5))) true none,
  .op (.C (.cf 53 [(.st 0)])) false (some r6)])
 (.cond (.sl r6) (.seq (.reg [.op (.P (.mv (.k (.bool true)))) false (some r7)])
 (.ret))
 (.skip)))))
 (.reg [.op (.P (.ar .add (.sl r0) (.k (.int .i64 1)))) true none,
  .op (.P (.mv (.st 0))) false (some r0)])))))))
 (.seq (.reg [.op (.P (.mv (.k (.bool false)))) false (some r7)])
 (.ret))))
  [.sl (.sl r7)]

def m40 : SlotMap := [(1, r0), (0, r1), (4, r2)]
def c40 : VFn :=
 VFn.mk [some r1, some r0] (.seq (.reg [.el,
  .el,
  .el,
  .el,
  .op (.P (.nn (.sl r1))) true none,
  .op (.P (.fa 4 (.st 0))) true none,
  .op (.W (.st 1 (.st 0) (.sl r0))) false none,
  .op (.P (.nn (.sl r1))) true none,
  .op (.P (.fa 6 (.st 0))) true none,
  .op (.W (.st 1 (.st 0) (.k .nils))) false none,
  .op (.P (.nn (.sl r1))) true none,
  .op (.P (.fa 5 (.st 0))) true none,
  .op (.W (.st 1 (.st 0) (.k (.int .i64 0)))) false none])
 (.seq (.reg [.op (.P (.mv (.k .nilp))) false (some r2)])
 (.dreg [(.q, .op (.P (.mv (.sl r1))) true none),
  (.q, .op (.P (.mv (.sl r1))) true none),
  (.q, .op (.P (.nn (.st 0))) true none),
  (.q, .op (.P (.fa 1 (.st 0))) true none),
  (.q, .op (.P (.fa 1 (.st 0))) true none),
  (.r 0 1, .op (.R (.ld 1 false (.st 0))) true none),
  (.q, .op (.P (.mv (.sl r2))) true none),
  (.q, .op (.P (.mv (.sl r1))) true none),
  (.q, .op (.P (.nn (.st 0))) true none),
  (.q, .op (.P (.fa 1 (.st 0))) true none),
  (.q, .op (.P (.fa 0 (.st 0))) true none),
  (.r 0 0, .op (.R (.ld 1 false (.st 0))) true none),
  (.q, .op (.P (.mv (.sl r0))) true none),
  (.h [], .op (.C (.cf 54 [(.st 6), (.st 1), (.st 0)])) true none),
  (.q, .op (.P (.bld [.nilp, .nilp, .nils, (.int .i64 0), (.bool false)] [(0, 1, (.st 8)), (1, 1, (.st 0))])) true none),
  (.q, .op (.P (.nn (.st 14))) true none),
  (.q, .op (.P (.fa 7 (.st 0))) true none),
  (.h [], .op (.W (.st 5 (.st 0) (.st 2))) false none)])))
  []

def m41 : SlotMap := [(6, r0), (0, r1), (7, r2), (9, r3), (5, r4), (12, r5), (16, r6), (20, r7), (33, r8), (48, r9), (8, r10), (2, r11), (3, r12), (4, r13)]
def c41 : VFn :=
 VFn.mk [some r1] (.seq (.reg [.op (.P (.mv (.k .nils))) false (some r11),
  .op (.P (.mv (.k (.int .i64 0)))) false (some r12),
  .op (.P (.mv (.k (.int .i64 0)))) false (some r13)])
 (.seq (.seq (.reg [.el,
  .op (.P (.ln 0 (.sl r1))) true none,
  .op (.P (.cmi .gtr (.st 0) (.k (.int .i64 4000)))) false (some r5)])
 (.cond (.sl r5) (.seq (.reg [.op (.P (.mv (.k .nils))) false (some r11),
  .op (.P (.mv (.k (.int .i64 0)))) false (some r12),
  .op (.P (.mv (.k (.int .i64 2)))) false (some r13)])
 (.ret))
 (.skip)))
 (.seq (.reg [.op (.P (.mv (.k .nils))) false (some r4)])
 (.seq (.seq (.reg [.op (.P (.mv (.k (.int .i64 0)))) false (some r0)])
 (.block 0 (.loop (.seq (.seq (.reg [.el,
  .el,
  .op (.P (.ln 0 (.sl r1))) true none,
  .op (.P (.cmi .lss (.sl r0) (.st 0))) false (some r6)])
 (.cond (.sl r6) (.skip)
 (.exit 0)))
 (.block 1 (.seq (.seq (.reg [.el,
  .el,
  .op (.P (.idxs (.sl r1) (.sl r0))) true none,
  .op (.P (.mv (.st 0))) false (some r2)])
 (.block 2 (.seq (.reg [.el,
  .op (.P (.cmi .eql (.sl r2) (.k (.int .u8 32)))) true none,
  .el,
  .op (.G (.st 0) false (.P (.mv (.sl r2)))) true none,
  .op (.G (.st 1) false (.P (.cmi .eql (.st 0) (.k (.int .u8 9))))) true none,
  .op (.P (.pick (.st 2) (.k (.bool true)) (.st 0))) true none,
  .el,
  .op (.G (.st 0) false (.P (.mv (.sl r2)))) true none,
  .op (.G (.st 1) false (.P (.cmi .eql (.st 0) (.k (.int .u8 10))))) true none,
  .op (.P (.pick (.st 2) (.k (.bool true)) (.st 0))) true none,
  .op (.P (.mv (.st 0))) false (some r7)])
 (.cond (.sl r7) (.seq (.reg [.op (.P (.mv (.sl r0))) true none,
  .op (.P (.ar .add (.st 0) (.k (.int .i64 1)))) true none,
  .op (.P (.mv (.st 0))) false (some r0)])
 (.exit 1))
 (.seq (.reg [.el,
  .op (.P (.cmi .eql (.sl r2) (.k (.int .u8 35)))) true none,
  .op (.P (.mv (.st 0))) false (some r8)])
 (.cond (.sl r8) (.seq (.reg [.op (.P (.mv (.sl r0))) true none,
  .el,
  .op (.P (.mv (.sl r0))) true none,
  .op (.C (.cf 55 [(.sl r1), (.st 0), (.k (.fn 56 [] []))])) true none,
  .op (.P (.ar .add (.st 2) (.st 0))) true none,
  .op (.P (.mv (.st 0))) false (some r0)])
 (.exit 1))
 (.skip)))))))
 (.seq (.reg [.el,
  .el,
  .op (.C (.cf 57 [(.sl r1), (.sl r0)])) true none,
  .el,
  .op (.P (.ext 0 (.st 0))) true none,
  .op (.P (.ext 1 (.st 1))) true none,
  .op (.F (.al 182 [(.int .i64 0), (.str 0 0), (.int .i64 0)])) false (some r10),
  .op (.W (.st 3 (.sl r10) (.st 1))) false none,
  .op (.P (.mv (.st 0))) false (some r3)])
 (.seq (.seq (.reg [.el,
  .op (.P (.cmi .eql (.sl r3) (.k (.int .i64 0)))) false (some r9)])
 (.cond (.sl r9) (.seq (.reg [.el,
  .op (.P (.mv (.k .nils))) false (some r11),
  .op (.P (.mv (.sl r0))) false (some r12),
  .op (.P (.mv (.k (.int .i64 10)))) false (some r13)])
 (.ret))
 (.skip)))
 (.seq (.reg [.op (.P (.mv (.sl r4))) true none,
  .op (.R (.ld 3 true (.sl r10))) true none,
  .op (.F (.bsl 182 3 1 [(.int .i64 0), (.str 0 0), (.int .i64 0)] [(0, 3, (.st 0))])) true none,
  .op (.W (.app 182 3 (.st 2) (.st 0))) true none,
  .op (.P (.mv (.st 0))) false (some r4)])
 (.reg [.op (.P (.mv (.sl r0))) true none,
  .el,
  .op (.P (.ar .add (.st 0) (.sl r3))) true none,
  .op (.P (.mv (.st 0))) false (some r0)]))))))))))
 (.seq (.reg [.el,
  .op (.P (.mv (.sl r4))) false (some r11),
  .op (.P (.mv (.k (.int .i64 0)))) false (some r12),
  .op (.P (.mv (.k (.int .i64 0)))) false (some r13)])
 (.ret))))))
  [.sl (.sl r11), .sl (.sl r12), .sl (.sl r13)]

def m43 : SlotMap := [(0, r0), (3, r1), (2, r2), (24, r3)]
def c43 : VFn :=
 VFn.mk [some r0] (.seq (.reg [.op (.F (.al 30 [(.str 0 0), (.int .i64 0), .nils, .nils, .nils, .nils, .nils, .nils])) false (some r2)])
 (.seq (.reg [.el,
  .op (.F (.bsl 9 1 1 [(.str 0 0)] [(0, 1, (.k (.str 6 120325194214501)))])) true none,
  .op (.C (.cf 58 [(.sl r0), (.st 0)])) false none])
 (.seq (.reg [.el,
  .op (.C (.cf 59 [(.sl r0)])) true none,
  .el,
  .op (.C (.cf 60 [(.sl r0), (.k (.bool false))])) true none,
  .op (.P (.bld [(.str 0 0), (.int .i64 0), .nils, .nils, .nils, .nils, .nils, .nils] [(0, 1, (.st 1)), (1, 1, (.st 0))])) true none,
  .op (.F (.al 30 [(.str 0 0), (.int .i64 0), .nils, .nils, .nils, .nils, .nils, .nils])) false (some r1),
  .op (.W (.st 8 (.sl r1) (.st 0))) false none])
 (.seq (.reg [.el,
  .op (.F (.bsl 9 1 1 [(.str 0 0)] [(0, 1, (.k (.str 1 59)))])) true none,
  .op (.C (.cf 58 [(.sl r0), (.st 0)])) false none])
 (.seq (.block 0 (.loop (.seq (.seq (.dreg [(.q, .op (.P (.mv (.sl r0))) true none),
  (.q, .op (.P (.nn (.st 0))) true none),
  (.q, .op (.P (.fa 1 (.st 0))) true none),
  (.r 0 0, .op (.R (.ld 1 false (.st 0))) true none),
  (.q, .op (.P (.mv (.sl r0))) true none),
  (.q, .op (.P (.nn (.st 0))) true none),
  (.q, .op (.P (.fa 0 (.st 0))) true none),
  (.r 0 0, .op (.R (.ld 1 false (.st 0))) true none),
  (.q, .op (.P (.ln 1 (.st 0))) true none),
  (.q, .op (.P (.cmi .lss (.st 5) (.st 0))) false (some r3))])
 (.cond (.sl r3) (.skip)
 (.exit 0)))
 (.block 1 (.reg [.el,
  .op (.C (.cf 61 [(.sl r0), (.sl r1)])) false none])))))
 (.seq (.reg [.op (.R (.ld 8 true (.sl r1))) true none,
  .op (.W (.st 8 (.sl r2) (.st 0))) false none])
 (.ret)))))))
  [.cell (.sl r2) 8 true]

def m44 : SlotMap := [(1, r0), (5, r1), (26, r2), (0, r3), (25, r4), (27, r5), (24, r6), (4, r7), (31, r8), (42, r9), (47, r10), (52, r11), (57, r12), (62, r13), (67, r14), (2, r15)]
def c44 : VFn :=
 VFn.mk [some r3] (.seq (.reg [.op (.F (.bx 30 (.sl r3))) false (some r0),
  .op (.P (.mv (.k (.int .i64 0)))) false (some r15)])
 (.seq (.seq (.reg [.op (.P (.fa 2 (.sl r0))) true none,
  .op (.R (.ld 1 false (.st 0))) true none,
  .op (.P (.ln 1 (.st 0))) true none,
  .op (.P (.fa 3 (.sl r0))) true none,
  .op (.R (.ld 1 false (.st 0))) true none,
  .op (.P (.ln 1 (.st 0))) true none,
  .op (.P (.fa 4 (.sl r0))) true none,
  .op (.R (.ld 1 false (.st 0))) true none,
  .op (.P (.ln 1 (.st 0))) true none,
  .op (.P (.fa 5 (.sl r0))) true none,
  .op (.R (.ld 1 false (.st 0))) true none,
  .op (.P (.ln 1 (.st 0))) true none,
  .op (.P (.fa 6 (.sl r0))) true none,
  .op (.R (.ld 1 false (.st 0))) true none,
  .op (.P (.ln 1 (.st 0))) true none,
  .op (.P (.fa 7 (.sl r0))) true none,
  .op (.R (.ld 1 false (.st 0))) true none,
  .op (.P (.ln 1 (.st 0))) true none,
  .op (.F (.bsl 3 1 6 [(.int .i64 0), (.int .i64 0), (.int .i64 0), (.int .i64 0), (.int .i64 0), (.int .i64 0)] [(0, 1, (.st 15)), (1, 1, (.st 12)), (2, 1, (.st 9)), (3, 1, (.st 6)), (4, 1, (.st 3)), (5, 1, (.st 0))])) false (some r6),
  .op (.P (.ln 1 (.sl r6))) false (some r4),
  .op (.P (.mv (.k (.int .i64 0)))) false (some r2)])
 (.block 0 (.loop (.seq (.reg [.op (.P (.cmi .lss (.sl r2) (.sl r4))) false (some r5)])
 (.seq (.cond (.sl r5) (.skip)
 (.exit 0))
 (.seq (.block 1 (.seq (.reg [.op (.P (.ia 1 (.sl r6) (.sl r2))) true none,
  .op (.R (.ld 1 false (.st 0))) true none,
  .op (.P (.mv (.st 0))) false (some r7)])
 (.seq (.reg [.el,
  .op (.P (.cmi .gtr (.sl r7) (.k (.int .i64 40)))) false (some r8)])
 (.cond (.sl r8) (.seq (.reg [.op (.P (.mv (.k (.int .i64 2)))) false (some r15)])
 (.ret))
 (.skip)))))
 (.reg [.op (.P (.ar .add (.sl r2) (.k (.int .i64 1)))) true none,
  .op (.P (.mv (.st 0))) false (some r2)])))))))
 (.seq (.seq (.reg [.op (.P (.fa 0 (.sl r0))) true none,
  .op (.R (.ld 1 false (.st 0))) true none,
  .op (.C (.cf 62 [(.st 0)])) true none,
  .op (.P (.no (.st 0))) true none,
  .el,
  .op (.G (.st 0) false (.P (.fa 1 (.sl r0)))) true none,
  .op (.G (.st 1) false (.R (.ld 1 false (.st 0)))) true none,
  .op (.G (.st 2) false (.C (.cf 63 [(.st 0)]))) true none,
  .op (.G (.st 3) false (.P (.no (.st 0)))) true none,
  .op (.P (.pick (.st 4) (.k (.bool true)) (.st 0))) false (some r9)])
 (.cond (.sl r9) (.seq (.reg [.op (.P (.mv (.k (.int .i64 3)))) false (some r15)])
 (.ret))
 (.skip)))
 (.seq (.reg [.op (.P (.fa 2 (.sl r0))) true none,
  .op (.R (.ld 1 false (.st 0))) true none,
  .op (.C (.cf 64 [(.st 0), (.k (.fn 65 [] []))])) true none,
  .op (.P (.mv (.st 0))) false (some r1)])
 (.seq (.seq (.reg [.el,
  .op (.P (.cmi .eql (.sl r1) (.k (.int .i64 0)))) false (some r10)])
 (.cond (.sl r10) (.reg [.op (.P (.fa 3 (.sl r0))) true none,
  .op (.R (.ld 1 false (.st 0))) true none,
  .op (.C (.cf 66 [(.st 0), (.k (.fn 67 [] []))])) true none,
  .op (.P (.mv (.st 0))) false (some r1)])
 (.skip)))
 (.seq (.seq (.reg [.el,
  .op (.P (.cmi .eql (.sl r1) (.k (.int .i64 0)))) false (some r11)])
 (.cond (.sl r11) (.reg [.op (.P (.fa 4 (.sl r0))) true none,
  .op (.R (.ld 1 false (.st 0))) true none,
  .op (.C (.cf 68 [(.st 0), (.k (.fn 69 [] []))])) true none,
  .op (.P (.mv (.st 0))) false (some r1)])
 (.skip)))
 (.seq (.seq (.reg [.el,
  .op (.P (.cmi .eql (.sl r1) (.k (.int .i64 0)))) false (some r12)])
 (.cond (.sl r12) (.reg [.op (.P (.fa 5 (.sl r0))) true none,
  .op (.R (.ld 1 false (.st 0))) true none,
  .op (.C (.cf 70 [(.st 0), (.k (.fn 71 [] []))])) true none,
  .op (.P (.mv (.st 0))) false (some r1)])
 (.skip)))
 (.seq (.seq (.reg [.el,
  .op (.P (.cmi .eql (.sl r1) (.k (.int .i64 0)))) false (some r13)])
 (.cond (.sl r13) (.reg [.op (.P (.fa 6 (.sl r0))) true none,
  .op (.R (.ld 1 false (.st 0))) true none,
  .op (.C (.cf 72 [(.st 0), (.k (.fn 73 [] []))])) true none,
  .op (.P (.mv (.st 0))) false (some r1)])
 (.skip)))
 (.seq (.seq (.reg [.el,
  .op (.P (.cmi .eql (.sl r1) (.k (.int .i64 0)))) false (some r14)])
 (.cond (.sl r14) (.reg [.op (.P (.fa 7 (.sl r0))) true none,
  .op (.R (.ld 1 false (.st 0))) true none,
  .op (.C (.cf 74 [(.st 0), (.k (.fn 75 [] []))])) true none,
  .op (.P (.mv (.st 0))) false (some r1)])
 (.skip)))
 (.seq (.reg [.el,
  .op (.P (.mv (.sl r1))) false (some r15)])
 (.ret)))))))))))
  [.sl (.sl r15)]

def m45 : SlotMap := [(4, r0), (12, r1), (5, r2), (32, r3), (1, r4), (21, r5), (0, r6), (25, r7), (27, r8), (31, r9), (41, r10), (2, r11)]
def c45 : VFn :=
 VFn.mk [some r6] (.seq (.reg [.op (.F (.bx 101 (.sl r6))) false (some r4),
  .op (.P (.mv (.k (.int .i64 0)))) false (some r11)])
 (.seq (.seq (.reg [.op (.P (.fa 0 (.sl r4))) true none,
  .op (.R (.ld 1 false (.st 0))) false (some r0)])
 (.block 0 (.seq (.seq (.reg [.op (.P (.cmi .eql (.sl r0) (.k (.int .i64 1)))) true none,
  .op (.P (.mv (.st 0))) false (some r2)])
 (.cond (.sl r2) (.skip)
 (.seq (.reg [.op (.P (.cmi .eql (.sl r0) (.k (.int .i64 2)))) true none,
  .op (.P (.mv (.st 0))) false (some r2)])
 (.cond (.sl r2) (.skip)
 (.seq (.reg [.op (.P (.cmi .eql (.sl r0) (.k (.int .i64 3)))) true none,
  .op (.P (.mv (.st 0))) false (some r2)])
 (.cond (.sl r2) (.skip)
 (.seq (.reg [.op (.P (.cmi .eql (.sl r0) (.k (.int .i64 4)))) true none,
  .op (.P (.mv (.st 0))) false (some r2)])
 (.cond (.sl r2) (.skip)
 (.seq (.reg [.op (.P (.cmi .eql (.sl r0) (.k (.int .i64 5)))) true none,
  .op (.P (.mv (.st 0))) false (some r2)])
 (.cond (.sl r2) (.skip)
 (.reg [.op (.P (.cmi .eql (.sl r0) (.k (.int .i64 16)))) true none,
  .op (.P (.mv (.st 0))) false (some r2)])))))))))))
 (.cond (.sl r2) (.seq (.reg [.op (.P (.mv (.k (.int .i64 0)))) false (some r11)])
 (.ret))
 (.seq (.seq (.reg [.op (.P (.cmi .eql (.sl r0) (.k (.int .i64 10)))) true none,
  .op (.P (.mv (.st 0))) false (some r1)])
 (.cond (.sl r1) (.skip)
 (.seq (.reg [.op (.P (.cmi .eql (.sl r0) (.k (.int .i64 13)))) true none,
  .op (.P (.mv (.st 0))) false (some r1)])
 (.cond (.sl r1) (.skip)
 (.seq (.reg [.op (.P (.cmi .eql (.sl r0) (.k (.int .i64 19)))) true none,
  .op (.P (.mv (.st 0))) false (some r1)])
 (.cond (.sl r1) (.skip)
 (.seq (.reg [.op (.P (.cmi .eql (.sl r0) (.k (.int .i64 20)))) true none,
  .op (.P (.mv (.st 0))) false (some r1)])
 (.cond (.sl r1) (.skip)
 (.seq (.reg [.op (.P (.cmi .eql (.sl r0) (.k (.int .i64 21)))) true none,
  .op (.P (.mv (.st 0))) false (some r1)])
 (.cond (.sl r1) (.skip)
 (.seq (.reg [.op (.P (.cmi .eql (.sl r0) (.k (.int .i64 22)))) true none,
  .op (.P (.mv (.st 0))) false (some r1)])
 (.cond (.sl r1) (.skip)
 (.seq (.reg [.op (.P (.cmi .eql (.sl r0) (.k (.int .i64 24)))) true none,
  .op (.P (.mv (.st 0))) false (some r1)])
 (.cond (.sl r1) (.skip)
 (.reg [.op (.P (.cmi .eql (.sl r0) (.k (.int .i64 25)))) true none,
  .op (.P (.mv (.st 0))) false (some r1)])))))))))))))))
 (.cond (.sl r1) (.seq (.reg [.op (.P (.mv (.k (.int .i64 1)))) false (some r11)])
 (.ret))
 (.seq (.seq (.reg [.op (.P (.cmi .eql (.sl r0) (.k (.int .i64 6)))) true none,
  .op (.P (.mv (.st 0))) false (some r5)])
 (.cond (.sl r5) (.skip)
 (.seq (.reg [.op (.P (.cmi .eql (.sl r0) (.k (.int .i64 15)))) true none,
  .op (.P (.mv (.st 0))) false (some r5)])
 (.cond (.sl r5) (.skip)
 (.reg [.op (.P (.cmi .eql (.sl r0) (.k (.int .i64 23)))) true none,
  .op (.P (.mv (.st 0))) false (some r5)])))))
 (.cond (.sl r5) (.seq (.reg [.op (.P (.mv (.k (.int .i64 2)))) false (some r11)])
 (.ret))
 (.seq (.reg [.op (.P (.cmi .eql (.sl r0) (.k (.int .i64 7)))) true none,
  .op (.P (.mv (.st 0))) false (some r7)])
 (.cond (.sl r7) (.seq (.reg [.op (.P (.mv (.k (.int .i64 3)))) false (some r11)])
 (.ret))
 (.seq (.reg [.op (.P (.cmi .eql (.sl r0) (.k (.int .i64 18)))) true none,
  .op (.P (.mv (.st 0))) false (some r8)])
 (.cond (.sl r8) (.seq (.seq (.reg [.op (.P (.fa 1 (.sl r4))) true none,
  .op (.R (.ld 1 false (.st 0))) true none,
  .op (.P (.cmi .geq (.st 0) (.k (.int .i64 0)))) false (some r9)])
 (.cond (.sl r9) (.seq (.reg [.op (.P (.mv (.k (.int .i64 1)))) false (some r11)])
 (.ret))
 (.skip)))
 (.seq (.reg [.op (.P (.mv (.k (.int .i64 0)))) false (some r11)])
 (.ret)))
 (.seq (.seq (.reg [.op (.P (.cmi .eql (.sl r0) (.k (.int .i64 8)))) true none,
  .op (.P (.mv (.st 0))) false (some r3)])
 (.cond (.sl r3) (.skip)
 (.seq (.reg [.op (.P (.cmi .eql (.sl r0) (.k (.int .i64 9)))) true none,
  .op (.P (.mv (.st 0))) false (some r3)])
 (.cond (.sl r3) (.skip)
 (.seq (.reg [.op (.P (.cmi .eql (.sl r0) (.k (.int .i64 12)))) true none,
  .op (.P (.mv (.st 0))) false (some r3)])
 (.cond (.sl r3) (.skip)
 (.seq (.reg [.op (.P (.cmi .eql (.sl r0) (.k (.int .i64 14)))) true none,
  .op (.P (.mv (.st 0))) false (some r3)])
 (.cond (.sl r3) (.skip)
 (.reg [.op (.P (.cmi .eql (.sl r0) (.k (.int .i64 17)))) true none,
  .op (.P (.mv (.st 0))) false (some r3)])))))))))
 (.cond (.sl r3) (.seq (.reg [.op (.P (.fa 5 (.sl r4))) true none,
  .op (.R (.ld 1 false (.st 0))) true none,
  .op (.P (.ln 1 (.st 0))) true none,
  .op (.P (.mv (.st 0))) false (some r11)])
 (.ret))
 (.seq (.reg [.op (.P (.cmi .eql (.sl r0) (.k (.int .i64 11)))) true none,
  .op (.P (.mv (.st 0))) false (some r10)])
 (.cond (.sl r10) (.seq (.reg [.op (.P (.fa 5 (.sl r4))) true none,
  .op (.R (.ld 1 false (.st 0))) true none,
  .op (.P (.ln 1 (.st 0))) true none,
  .op (.P (.mx false [(.st 0), (.k (.int .i64 1))])) true none,
  .op (.P (.mv (.st 0))) false (some r11)])
 (.ret))
 (.skip)))))))))))))))))
 (.seq (.reg [.op (.P (.mv (.k (.int .i64 (-1))))) false (some r11)])
 (.ret))))
  [.sl (.sl r11)]

def m46 : SlotMap := [(3, r0), (0, r1), (1, r2), (2, r3)]
def c46 : VFn :=
 VFn.mk [some r1] (.seq (.reg [.op (.F (.bx 101 (.sl r1))) false (some r2),
  .op (.P (.mv (.k .nils))) false (some r3)])
 (.seq (.reg [.op (.W (.mkm)) true none,
  .op (.W (.mkm)) true none,
  .op (.P (.bld [.nilm, .nilm, .nils] [(0, 1, (.st 1)), (1, 1, (.st 0))])) true none,
  .op (.F (.al 208 [.nilm, .nilm, .nils])) false (some r0),
  .op (.W (.st 3 (.sl r0) (.st 0))) false none])
 (.seq (.reg [.op (.R (.ld 8 true (.sl r2))) true none,
  .op (.C (.cf 76 [(.sl r0), (.st 0)])) false none])
 (.seq (.reg [.op (.P (.fa 2 (.sl r0))) true none,
  .op (.R (.ld 1 false (.st 0))) true none,
  .op (.P (.mv (.st 0))) false (some r3)])
 (.ret)))))
  [.sl (.sl r3)]

def m47 : SlotMap := [(1, r0), (2, r1), (0, r2)]
def c47 : VFn :=
 VFn.mk [some r2] (.seq (.reg [.op (.F (.bx 164 (.sl r2))) false (some r0),
  .op (.F (.al 164 [(.int .i64 0), (.int .i64 0), (.str 0 0), .nils])) false (some r1)])
 (.seq (.reg [.op (.P (.fa 3 (.sl r0))) true none,
  .op (.R (.ld 1 false (.st 0))) true none,
  .op (.C (.cf 77 [(.st 0), (.k (.fn 47 [] []))])) true none,
  .op (.P (.fa 3 (.sl r0))) true none,
  .op (.W (.st 1 (.st 0) (.st 1))) false none])
 (.seq (.reg [.op (.R (.ld 4 true (.sl r0))) true none,
  .op (.W (.st 4 (.sl r1) (.st 0))) false none])
 (.ret))))
  [.cell (.sl r1) 4 true]

def m48 : SlotMap := [(9, r0), (1, r1), (3, r2), (0, r3), (8, r4), (10, r5), (7, r6), (5, r7), (2, r8)]
def c48 : VFn :=
 VFn.mk [some r3] (.seq (.reg [.op (.F (.bx 30 (.sl r3))) false (some r1),
  .op (.P (.mv (.k .nils))) false (some r8)])
 (.seq (.reg [.op (.P (.mv (.k .nils))) false (some r2)])
 (.seq (.seq (.reg [.op (.P (.fa 5 (.sl r1))) true none,
  .op (.R (.ld 1 false (.st 0))) false (some r6),
  .op (.P (.ln 1 (.sl r6))) false (some r4),
  .op (.P (.mv (.k (.int .i64 0)))) false (some r0)])
 (.block 0 (.loop (.seq (.reg [.op (.P (.cmi .lss (.sl r0) (.sl r4))) false (some r5)])
 (.seq (.cond (.sl r5) (.skip)
 (.exit 0))
 (.seq (.block 1 (.seq (.reg [.op (.P (.ia 3 (.sl r6) (.sl r0))) true none,
  .op (.R (.ld 3 true (.st 0))) true none,
  .op (.F (.al 106 [(.str 0 0), (.str 0 0), .nils])) false (some r7),
  .op (.W (.st 3 (.sl r7) (.st 0))) false none])
 (.reg [.op (.P (.mv (.sl r2))) true none,
  .op (.P (.fa 2 (.sl r7))) true none,
  .op (.R (.ld 1 false (.st 0))) true none,
  .op (.W (.app 103 15 (.st 2) (.st 0))) true none,
  .op (.P (.mv (.st 0))) false (some r2)])))
 (.reg [.op (.P (.ar .add (.sl r0) (.k (.int .i64 1)))) true none,
  .op (.P (.mv (.st 0))) false (some r0)])))))))
 (.seq (.reg [.el,
  .op (.P (.fa 6 (.sl r1))) true none,
  .op (.R (.ld 1 false (.st 0))) true none,
  .op (.W (.app 103 15 (.sl r2) (.st 0))) true none,
  .op (.P (.mv (.st 0))) false (some r8)])
 (.ret)))))
  [.sl (.sl r8)]

def m49 : SlotMap := [(3, r0), (5, r1), (6, r2), (7, r3), (4, r4), (0, r5), (1, r6), (12, r7), (33, r8), (50, r9), (2, r10)]
def c49 : VFn :=
 VFn.mk [some r5] (.seq (.reg [.op (.F (.bx 101 (.sl r5))) false (some r6),
  .op (.P (.mv (.k .nils))) false (some r10)])
 (.seq (.reg [.op (.R (.ld 8 true (.sl r6))) true none,
  .op (.F (.bsl 101 8 1 [(.int .i64 0), (.int .i64 0), (.str 0 0), .nils, .nils, .nils, .nils, (.int .i64 0)] [(0, 8, (.st 0))])) true none,
  .op (.P (.mv (.st 0))) false (some r0)])
 (.seq (.reg [.op (.P (.mv (.k .nils))) false (some r4)])
 (.seq (.block 0 (.loop (.seq (.seq (.reg [.el,
  .op (.P (.ln 1 (.sl r0))) true none,
  .op (.P (.cmi .gtr (.st 0) (.k (.int .i64 0)))) false (some r7)])
 (.cond (.sl r7) (.skip)
 (.exit 0)))
 (.block 1 (.seq (.reg [.el,
  .el,
  .op (.P (.ln 1 (.sl r0))) true none,
  .op (.P (.ar .sub (.st 0) (.k (.int .i64 1)))) true none,
  .op (.P (.ia 8 (.sl r0) (.st 0))) true none,
  .op (.R (.ld 8 true (.st 0))) true none,
  .op (.F (.al 101 [(.int .i64 0), (.int .i64 0), (.str 0 0), .nils, .nils, .nils, .nils, (.int .i64 0)])) false (some r1),
  .op (.W (.st 8 (.sl r1) (.st 0))) false none])
 (.seq (.reg [.op (.P (.mv (.sl r0))) true none,
  .op (.P (.mv (.sl r0))) true none,
  .op (.P (.ln 1 (.st 0))) true none,
  .op (.P (.ar .sub (.st 0) (.k (.int .i64 1)))) true none,
  .op (.R (.sll 101 8 (.st 3) none (some (.st 0)))) true none,
  .op (.P (.mv (.st 0))) false (some r0)])
 (.seq (.reg [.op (.P (.mv (.sl r4))) true none,
  .op (.R (.ld 8 true (.sl r1))) true none,
  .op (.F (.bsl 101 8 1 [(.int .i64 0), (.int .i64 0), (.str 0 0), .nils, .nils, .nils, .nils, (.int .i64 0)] [(0, 8, (.st 0))])) true none,
  .op (.W (.app 101 8 (.st 2) (.st 0))) true none,
  .op (.P (.mv (.st 0))) false (some r4)])
 (.seq (.seq (.reg [.op (.P (.fa 6 (.sl r1))) true none,
  .op (.R (.ld 1 false (.st 0))) true none,
  .op (.P (.ln 1 (.st 0))) true none,
  .op (.P (.ar .sub (.st 0) (.k (.int .i64 1)))) true none,
  .op (.P (.mv (.st 0))) false (some r2)])
 (.block 2 (.loop (.seq (.seq (.reg [.el,
  .op (.P (.cmi .geq (.sl r2) (.k (.int .i64 0)))) false (some r8)])
 (.cond (.sl r8) (.skip)
 (.exit 2)))
 (.seq (.block 3 (.reg [.op (.P (.mv (.sl r0))) true none,
  .op (.P (.fa 6 (.sl r1))) true none,
  .op (.R (.ld 1 false (.st 0))) true none,
  .el,
  .op (.P (.ia 12 (.st 0) (.sl r2))) true none,
  .op (.P (.fa 4 (.st 0))) true none,
  .op (.R (.ld 8 true (.st 0))) true none,
  .op (.F (.bsl 101 8 1 [(.int .i64 0), (.int .i64 0), (.str 0 0), .nils, .nils, .nils, .nils, (.int .i64 0)] [(0, 8, (.st 0))])) true none,
  .op (.W (.app 101 8 (.st 6) (.st 0))) true none,
  .op (.P (.mv (.st 0))) false (some r0)]))
 (.reg [.op (.P (.mv (.sl r2))) true none,
  .op (.P (.ar .sub (.st 0) (.k (.int .i64 1)))) true none,
  .op (.P (.mv (.st 0))) false (some r2)]))))))
 (.seq (.reg [.op (.P (.fa 5 (.sl r1))) true none,
  .op (.R (.ld 1 false (.st 0))) true none,
  .op (.P (.ln 1 (.st 0))) true none,
  .op (.P (.ar .sub (.st 0) (.k (.int .i64 1)))) true none,
  .op (.P (.mv (.st 0))) false (some r3)])
 (.block 4 (.loop (.seq (.seq (.reg [.el,
  .op (.P (.cmi .geq (.sl r3) (.k (.int .i64 0)))) false (some r9)])
 (.cond (.sl r9) (.skip)
 (.exit 4)))
 (.seq (.block 5 (.reg [.op (.P (.mv (.sl r0))) true none,
  .op (.P (.fa 5 (.sl r1))) true none,
  .op (.R (.ld 1 false (.st 0))) true none,
  .el,
  .op (.P (.ia 8 (.st 0) (.sl r3))) true none,
  .op (.R (.ld 8 true (.st 0))) true none,
  .op (.F (.bsl 101 8 1 [(.int .i64 0), (.int .i64 0), (.str 0 0), .nils, .nils, .nils, .nils, (.int .i64 0)] [(0, 8, (.st 0))])) true none,
  .op (.W (.app 101 8 (.st 5) (.st 0))) true none,
  .op (.P (.mv (.st 0))) false (some r0)]))
 (.reg [.op (.P (.mv (.sl r3))) true none,
  .op (.P (.ar .sub (.st 0) (.k (.int .i64 1)))) true none,
  .op (.P (.mv (.st 0))) false (some r3)]))))))))))))))
 (.seq (.reg [.el,
  .op (.P (.mv (.sl r4))) false (some r10)])
 (.ret))))))
  [.sl (.sl r10)]

def m50 : SlotMap := [(3, r0), (4, r1), (0, r2), (1, r3), (10, r4), (2, r5)]
def c50 : VFn :=
 VFn.mk [some r2] (.seq (.reg [.op (.F (.bx 164 (.sl r2))) false (some r3),
  .op (.P (.mv (.k .nils))) false (some r5)])
 (.seq (.reg [.op (.R (.ld 4 true (.sl r3))) true none,
  .op (.F (.bsl 164 4 1 [(.int .i64 0), (.int .i64 0), (.str 0 0), .nils] [(0, 4, (.st 0))])) true none,
  .op (.P (.mv (.st 0))) false (some r0)])
 (.seq (.seq (.reg [.op (.P (.mv (.k (.int .i64 0)))) false (some r1)])
 (.block 0 (.loop (.seq (.seq (.reg [.el,
  .el,
  .op (.P (.ln 1 (.sl r0))) true none,
  .op (.P (.cmi .lss (.sl r1) (.st 0))) false (some r4)])
 (.cond (.sl r4) (.skip)
 (.exit 0)))
 (.seq (.block 1 (.reg [.op (.P (.mv (.sl r0))) true none,
  .op (.P (.mv (.sl r0))) true none,
  .el,
  .op (.P (.ia 4 (.st 0) (.sl r1))) true none,
  .op (.P (.fa 3 (.st 0))) true none,
  .op (.R (.ld 1 false (.st 0))) true none,
  .op (.W (.app 164 4 (.st 4) (.st 0))) true none,
  .op (.P (.mv (.st 0))) false (some r0)]))
 (.reg [.op (.P (.mv (.sl r1))) true none,
  .op (.P (.ar .add (.st 0) (.k (.int .i64 1)))) true none,
  .op (.P (.mv (.st 0))) false (some r1)]))))))
 (.seq (.reg [.el,
  .op (.P (.mv (.sl r0))) false (some r5)])
 (.ret)))))
  [.sl (.sl r5)]

def m51 : SlotMap := [(2, r0), (6, r1), (4, r2), (16, r3), (10, r4), (20, r5), (1, r6), (7, r7), (0, r8), (18, r9), (26, r10), (38, r11), (40, r12), (48, r13), (50, r14), (55, r15), (9, r16), (64, r17), (8, r18), (74, r19), (77, r20), (83, r21), (11, r22), (98, r23), (102, r24), (108, r25), (5, r26)]
def c51 : VFn :=
 VFn.mk [some r8, some r6] (.seq (.reg [.op (.F (.bx 39 (.sl r8))) false (some r0),
  .op (.F (.al 139 [(.int .i64 0), (.int .i64 0), (.str 0 0), .nils, .nilp])) false (some r2),
  .op (.P (.mv (.k (.bool false)))) false (some r26)])
 (.seq (.reg [.op (.P (.fa 0 (.sl r0))) true none,
  .op (.R (.ld 1 false (.st 0))) true none,
  .op (.P (.bld [(.int .i64 0), (.int .i64 0), (.str 0 0), .nils, .nilp] [(0, 1, (.st 0))])) true none,
  .op (.F (.al 139 [(.int .i64 0), (.int .i64 0), (.str 0 0), .nils, .nilp])) false (some r1),
  .op (.W (.st 5 (.sl r1) (.st 0))) false none])
 (.seq (.reg [.op (.P (.mv (.k (.int .i64 0)))) false (some r7)])
 (.seq (.seq (.reg [.op (.P (.fa 0 (.sl r0))) true none,
  .op (.R (.ld 1 false (.st 0))) false (some r3)])
 (.block 0 (.seq (.reg [.op (.P (.cmi .eql (.sl r3) (.k (.int .i64 1)))) true none,
  .op (.P (.mv (.st 0))) false (some r9)])
 (.cond (.sl r9) (.skip)
 (.seq (.seq (.reg [.op (.P (.cmi .eql (.sl r3) (.k (.int .i64 2)))) true none,
  .op (.P (.mv (.st 0))) false (some r5)])
 (.cond (.sl r5) (.skip)
 (.reg [.op (.P (.cmi .eql (.sl r3) (.k (.int .i64 6)))) true none,
  .op (.P (.mv (.st 0))) false (some r5)])))
 (.cond (.sl r5) (.reg [.op (.P (.fa 1 (.sl r0))) true none,
  .op (.R (.ld 1 false (.st 0))) true none,
  .op (.P (.fa 1 (.sl r1))) true none,
  .op (.W (.st 1 (.st 0) (.st 1))) false none])
 (.seq (.reg [.op (.P (.cmi .eql (.sl r3) (.k (.int .i64 3)))) true none,
  .op (.P (.mv (.st 0))) false (some r10)])
 (.cond (.sl r10) (.seq (.reg [.op (.P (.fa 1 (.sl r0))) true none,
  .op (.R (.ld 1 false (.st 0))) true none,
  .op (.P (.fa 1 (.sl r1))) true none,
  .op (.W (.st 1 (.st 0) (.st 1))) false none])
 (.seq (.reg [.op (.P (.fa 1 (.sl r0))) true none,
  .op (.R (.ld 1 false (.st 0))) true none,
  .op (.P (.cmi .neq (.st 0) (.k (.int .i64 0)))) true none,
  .el,
  .op (.G (.st 0) true (.P (.fa 1 (.sl r0)))) true none,
  .op (.G (.st 1) true (.R (.ld 1 false (.st 0)))) true none,
  .op (.G (.st 2) true (.P (.cmi .neq (.st 0) (.k (.int .i64 1))))) true none,
  .op (.P (.pick (.st 3) (.st 0) (.k (.bool false)))) false (some r11)])
 (.cond (.sl r11) (.seq (.reg [.op (.P (.bld [(.int .i64 0), (.int .i64 0), (.str 0 0), .nils, .nilp] [])) true none,
  .op (.W (.st 5 (.sl r2) (.st 0))) false none,
  .op (.P (.mv (.k (.bool false)))) false (some r26)])
 (.ret))
 (.skip))))
 (.seq (.reg [.op (.P (.cmi .eql (.sl r3) (.k (.int .i64 4)))) true none,
  .op (.P (.mv (.st 0))) false (some r12)])
 (.cond (.sl r12) (.seq (.reg [.op (.P (.fa 2 (.sl r0))) true none,
  .op (.R (.ld 1 false (.st 0))) true none,
  .op (.P (.fa 2 (.sl r1))) true none,
  .op (.W (.st 1 (.st 0) (.st 1))) false none])
 (.seq (.reg [.op (.P (.fa 2 (.sl r0))) true none,
  .op (.R (.ld 1 false (.st 0))) true none,
  .op (.P (.ln 0 (.st 0))) true none,
  .op (.P (.cmi .gtr (.st 0) (.k (.int .i64 64)))) false (some r13)])
 (.cond (.sl r13) (.seq (.reg [.op (.P (.bld [(.int .i64 0), (.int .i64 0), (.str 0 0), .nils, .nilp] [])) true none,
  .op (.W (.st 5 (.sl r2) (.st 0))) false none,
  .op (.P (.mv (.k (.bool false)))) false (some r26)])
 (.ret))
 (.skip))))
 (.seq (.reg [.op (.P (.cmi .eql (.sl r3) (.k (.int .i64 5)))) true none,
  .op (.P (.mv (.st 0))) false (some r14)])
 (.cond (.sl r14) (.reg [.op (.P (.fa 2 (.sl r0))) true none,
  .op (.R (.ld 1 false (.st 0))) true none,
  .op (.P (.fa 2 (.sl r1))) true none,
  .op (.W (.st 1 (.st 0) (.st 1))) false none,
  .op (.P (.mv (.k (.int .i64 6)))) false (some r7)])
 (.seq (.reg [.op (.P (.cmi .eql (.sl r3) (.k (.int .i64 7)))) true none,
  .op (.P (.mv (.st 0))) false (some r15)])
 (.cond (.sl r15) (.seq (.reg [.el,
  .op (.R (.ld 4 true (.sl r0))) true none,
  .op (.C (.cv (.sl r6) [(.st 0)])) true none,
  .el,
  .op (.P (.ext 0 (.st 0))) true none,
  .op (.P (.ext 1 (.st 1))) true none,
  .op (.P (.mv (.st 1))) false (some r18),
  .op (.P (.mv (.st 0))) false (some r16)])
 (.seq (.seq (.reg [.el,
  .op (.P (.no (.sl r16))) false (some r17)])
 (.cond (.sl r17) (.seq (.reg [.op (.P (.bld [(.int .i64 0), (.int .i64 0), (.str 0 0), .nils, .nilp] [])) true none,
  .op (.W (.st 5 (.sl r2) (.st 0))) false none,
  .op (.P (.mv (.k (.bool false)))) false (some r26)])
 (.ret))
 (.skip)))
 (.dreg [(.q, .op (.P (.fa 1 (.sl r0))) true none),
  (.r 0 0, .op (.R (.ld 1 false (.st 0))) true none),
  (.q, .op (.P (.mv (.sl r18))) true none),
  (.q, .op (.P (.fa 3 (.sl r0))) true none),
  (.r 0 2, .op (.R (.ld 1 false (.st 0))) true none),
  (.q, .op (.P (.ln 1 (.st 0))) true none),
  (.q, .op (.P (.fa 1 (.sl r1))) true none),
  (.h [], .op (.W (.st 1 (.st 0) (.st 5))) false none),
  (.q, .op (.P (.fa 2 (.sl r1))) true none),
  (.h [], .op (.W (.st 1 (.st 0) (.st 5))) false none),
  (.q, .op (.P (.mv (.st 2))) false (some r7))])))
 (.seq (.reg [.op (.P (.cmi .eql (.sl r3) (.k (.int .i64 8)))) true none,
  .op (.P (.mv (.st 0))) false (some r19)])
 (.cond (.sl r19) (.reg [.op (.P (.mv (.k (.int .i64 1)))) false (some r7)])
 (.seq (.reg [.op (.P (.bld [(.int .i64 0), (.int .i64 0), (.str 0 0), .nils, .nilp] [])) true none,
  .op (.W (.st 5 (.sl r2) (.st 0))) false none,
  .op (.P (.mv (.k (.bool false)))) false (some r26)])
 (.ret))))))))))))))))))
 (.seq (.seq (.reg [.el,
  .op (.P (.cmi .eql (.sl r7) (.k (.int .i64 0)))) false (some r20)])
 (.cond (.sl r20) (.seq (.reg [.op (.R (.ld 5 true (.sl r1))) true none,
  .op (.W (.st 5 (.sl r2) (.st 0))) false none,
  .op (.P (.mv (.k (.bool true)))) false (some r26)])
 (.ret))
 (.skip)))
 (.seq (.seq (.reg [.op (.P (.fa 3 (.sl r0))) true none,
  .op (.R (.ld 1 false (.st 0))) true none,
  .op (.P (.ln 1 (.st 0))) true none,
  .el,
  .op (.P (.cmi .gtr (.st 0) (.sl r7))) false (some r21)])
 (.cond (.sl r21) (.seq (.reg [.op (.P (.bld [(.int .i64 0), (.int .i64 0), (.str 0 0), .nils, .nilp] [])) true none,
  .op (.W (.st 5 (.sl r2) (.st 0))) false none,
  .op (.P (.mv (.k (.bool false)))) false (some r26)])
 (.ret))
 (.skip)))
 (.seq (.reg [.op (.P (.fa 3 (.sl r0))) true none,
  .op (.R (.ld 1 false (.st 0))) true none,
  .el,
  .op (.C (.cf 37 [(.st 0), (.sl r6)])) true none,
  .el,
  .op (.P (.ext 0 (.st 0))) true none,
  .op (.P (.ext 1 (.st 1))) true none,
  .op (.P (.mv (.st 1))) false (some r4),
  .op (.P (.mv (.st 0))) false (some r22)])
 (.seq (.block 1 (.seq (.reg [.el,
  .op (.P (.no (.sl r22))) true none,
  .op (.P (.mv (.st 0))) false (some r23)])
 (.cond (.sl r23) (.seq (.reg [.op (.P (.bld [(.int .i64 0), (.int .i64 0), (.str 0 0), .nils, .nilp] [])) true none,
  .op (.W (.st 5 (.sl r2) (.st 0))) false none,
  .op (.P (.mv (.k (.bool false)))) false (some r26)])
 (.ret))
 (.seq (.reg [.op (.P (.fa 0 (.sl r0))) true none,
  .op (.R (.ld 1 false (.st 0))) true none,
  .op (.P (.cmi .neq (.st 0) (.k (.int .i64 8)))) true none,
  .op (.P (.mv (.st 0))) false (some r24)])
 (.cond (.sl r24) (.reg [.el,
  .op (.P (.fa 3 (.sl r1))) true none,
  .op (.W (.st 1 (.st 0) (.sl r4))) false none])
 (.seq (.reg [.el,
  .op (.P (.ln 1 (.sl r4))) true none,
  .op (.P (.cmi .eql (.st 0) (.k (.int .i64 0)))) true none,
  .op (.P (.mv (.st 0))) false (some r25)])
 (.cond (.sl r25) (.reg [.op (.P (.bld [(.bool false), (.int .i64 0), (.int .i64 0), (.str 0 0), .nils, .nilp] [(0, 1, (.k (.bool true)))])) true none,
  .op (.F (.bx 212 (.st 0))) true none,
  .op (.P (.fa 4 (.sl r1))) true none,
  .op (.W (.st 1 (.st 0) (.st 1))) false none])
 (.reg [.el,
  .op (.P (.ia 5 (.sl r4) (.k (.int .i64 0)))) true none,
  .op (.R (.ld 5 true (.st 0))) true none,
  .op (.P (.bld [(.bool false), (.int .i64 0), (.int .i64 0), (.str 0 0), .nils, .nilp] [(1, 5, (.st 0))])) true none,
  .op (.F (.bx 212 (.st 0))) true none,
  .op (.P (.fa 4 (.sl r1))) true none,
  .op (.W (.st 1 (.st 0) (.st 1))) false none]))))))))
 (.seq (.reg [.op (.R (.ld 5 true (.sl r1))) true none,
  .op (.W (.st 5 (.sl r2) (.st 0))) false none,
  .op (.P (.mv (.k (.bool true)))) false (some r26)])
 (.ret))))))))))
  [.cell (.sl r2) 5 true, .sl (.sl r26)]

def m52 : SlotMap := [(1, r0), (0, r1), (6, r2), (5, r3), (9, r4), (15, r5), (24, r6), (4, r7)]
def c52 : VFn :=
 VFn.mk [some r1, some r0] (.seq (.reg [.op (.P (.mv (.k (.int .i64 0)))) false (some r7)])
 (.seq (.seq (.reg [.el,
  .op (.P (.ln 0 (.sl r0))) true none,
  .op (.P (.cmi .eql (.st 0) (.k (.int .i64 0)))) false (some r4)])
 (.cond (.sl r4) (.seq (.reg [.el,
  .op (.C (.cf 78 [(.sl r1)])) true none,
  .op (.P (.ar .add (.st 0) (.k (.int .i64 1)))) true none,
  .op (.P (.mv (.st 0))) false (some r7)])
 (.ret))
 (.skip)))
 (.seq (.seq (.reg [.el,
  .op (.P (.ln 0 (.sl r0))) true none,
  .op (.P (.cmi .eql (.st 0) (.k (.int .i64 1)))) false (some r5)])
 (.cond (.sl r5) (.seq (.reg [.el,
  .el,
  .op (.P (.idxs (.sl r0) (.k (.int .i64 0)))) true none,
  .op (.C (.cf 79 [(.sl r1), (.st 0)])) true none,
  .op (.P (.mv (.st 0))) false (some r7)])
 (.ret))
 (.skip)))
 (.seq (.reg [.op (.P (.mv (.k (.int .i64 0)))) false (some r3)])
 (.block 0 (.loop (.block 1 (.seq (.reg [.el,
  .el,
  .op (.C (.cf 80 [(.sl r1), (.sl r0)])) true none,
  .op (.P (.mv (.st 0))) false (some r2)])
 (.seq (.seq (.reg [.el,
  .op (.P (.cmi .eql (.sl r2) (.k (.int .i64 (-1))))) false (some r6)])
 (.cond (.sl r6) (.seq (.reg [.el,
  .op (.P (.mv (.sl r3))) false (some r7)])
 (.ret))
 (.skip)))
 (.seq (.reg [.op (.P (.mv (.sl r3))) true none,
  .op (.P (.ar .add (.st 0) (.k (.int .i64 1)))) true none,
  .op (.P (.mv (.st 0))) false (some r3)])
 (.reg [.op (.P (.mv (.sl r1))) true none,
  .el,
  .el,
  .op (.P (.ln 0 (.sl r0))) true none,
  .op (.P (.ar .add (.sl r2) (.st 0))) true none,
  .op (.P (.sls (.st 2) (some (.st 0)) none)) true none,
  .op (.P (.mv (.st 0))) false (some r1)])))))))))))
  [.sl (.sl r7)]

def m53 : SlotMap := [(0, r0), (3, r1), (1, r2), (2, r3)]
def c53 : VFn :=
 VFn.mk [some r0] (.seq (.reg [.op (.F (.bx 139 (.sl r0))) false (some r2),
  .op (.P (.mv (.k (.bool false)))) false (some r3)])
 (.seq (.reg [.op (.F (.al 3 [(.int .i64 0)])) false (some r1),
  .op (.W (.st 1 (.sl r1) (.k (.int .i64 400)))) false none])
 (.seq (.reg [.op (.R (.ld 5 true (.sl r2))) true none,
  .op (.C (.cf 81 [(.st 0), (.sl r1), (.k (.int .i64 1))])) true none,
  .op (.P (.no (.st 0))) true none,
  .op (.P (.mv (.st 0))) false (some r3)])
 (.ret))))
  [.sl (.sl r3)]

def m54 : SlotMap := [(11, r0), (0, r1), (1, r2), (10, r3), (12, r4), (9, r5), (7, r6), (2, r7), (8, r8), (6, r9)]
def c54 : VFn :=
 VFn.mk [some r1, some r2, some r7] (.seq (.reg [.op (.P (.mv (.k .nilp))) false (some r9)])
 (.seq (.seq (.reg [.op (.P (.mv (.sl r2))) false (some r5),
  .op (.P (.ln 1 (.sl r5))) false (some r3),
  .op (.P (.mv (.k (.int .i64 0)))) false (some r0)])
 (.block 0 (.loop (.seq (.reg [.op (.P (.cmi .lss (.sl r0) (.sl r3))) false (some r4)])
 (.seq (.cond (.sl r4) (.skip)
 (.exit 0))
 (.seq (.block 1 (.seq (.reg [.el,
  .op (.P (.ia 1 (.sl r5) (.sl r0))) true none,
  .op (.R (.ld 1 false (.st 0))) true none,
  .op (.P (.mv (.sl r0))) false (some r6),
  .op (.P (.mv (.st 0))) false (some r8)])
 (.reg [.el,
  .el,
  .el,
  .op (.P (.ia 5 (.sl r7) (.sl r6))) true none,
  .op (.R (.ld 5 true (.st 0))) true none,
  .op (.P (.mv (.sl r1))) true none,
  .op (.P (.bld [(.str 0 0), (.int .i64 0), (.int .i64 0), (.str 0 0), .nils, .nilp, .nilp] [(0, 1, (.sl r8)), (1, 5, (.st 1)), (6, 1, (.st 0))])) true none,
  .op (.F (.bx 218 (.st 0))) true none,
  .op (.P (.mv (.st 0))) false (some r1)])))
 (.reg [.op (.P (.ar .add (.sl r0) (.k (.int .i64 1)))) true none,
  .op (.P (.mv (.st 0))) false (some r0)])))))))
 (.seq (.reg [.el,
  .op (.P (.mv (.sl r1))) false (some r9)])
 (.ret))))
  [.sl (.sl r9)]

def m55 : SlotMap := [(7, r0), (2, r1), (0, r2), (1, r3), (22, r4), (6, r5)]
def c55 : VFn :=
 VFn.mk [some r2, some r3, some r1] (.seq (.reg [.op (.P (.mv (.k (.int .i64 0)))) false (some r5)])
 (.seq (.reg [.op (.P (.mv (.k (.int .i64 0)))) false (some r0)])
 (.seq (.block 0 (.loop (.seq (.seq (.reg [.el,
  .el,
  .op (.P (.ar .add (.sl r3) (.sl r0))) true none,
  .el,
  .op (.P (.ln 0 (.sl r2))) true none,
  .op (.P (.cmi .lss (.st 1) (.st 0))) true none,
  .el,
  .op (.G (.st 0) true (.P (.mv (.sl r1)))) true none,
  .op (.G (.st 1) true (.P (.mv (.sl r2)))) true none,
  .op (.G (.st 2) true (.P (.mv (.sl r3)))) true none,
  .op (.G (.st 3) true (.P (.mv (.sl r0)))) true none,
  .op (.G (.st 4) true (.P (.ar .add (.st 1) (.st 0)))) true none,
  .op (.G (.st 5) true (.P (.idxs (.st 3) (.st 0)))) true none,
  .op (.G (.st 6) true (.C (.cv (.st 5) [(.st 0)]))) true none,
  .op (.P (.pick (.st 7) (.st 0) (.k (.bool false)))) false (some r4)])
 (.cond (.sl r4) (.skip)
 (.exit 0)))
 (.block 1 (.reg [.op (.P (.mv (.sl r0))) true none,
  .op (.P (.ar .add (.st 0) (.k (.int .i64 1)))) true none,
  .op (.P (.mv (.st 0))) false (some r0)])))))
 (.seq (.reg [.el,
  .op (.P (.mv (.sl r0))) false (some r5)])
 (.ret)))))
  [.sl (.sl r5)]

def m56 : SlotMap := [(0, r0), (2, r1)]
def c56 : VFn :=
 VFn.mk [some r0] (.seq (.reg [.op (.P (.mv (.k (.bool false)))) false (some r1)])
 (.seq (.reg [.el,
  .op (.P (.cmi .neq (.sl r0) (.k (.int .u8 10)))) true none,
  .op (.P (.mv (.st 0))) false (some r1)])
 (.ret)))
  [.sl (.sl r1)]

def m57 : SlotMap := [(1, r0), (0, r1), (4, r2), (8, r3), (7, r4), (12, r5), (6, r6), (9, r7), (16, r8), (28, r9), (35, r10), (42, r11), (50, r12), (69, r13), (80, r14), (11, r15), (10, r16), (100, r17), (109, r18), (5, r19)]
def c57 : VFn :=
 VFn.mk [some r1, some r0] (.seq (.reg [.op (.F (.al 182 [(.int .i64 0), (.str 0 0), (.int .i64 0)])) false (some r2),
  .op (.P (.mv (.k (.int .i64 0)))) false (some r19)])
 (.seq (.seq (.reg [.el,
  .el,
  .op (.P (.idxs (.sl r1) (.sl r0))) true none,
  .op (.P (.mv (.st 0))) false (some r6)])
 (.block 0 (.seq (.reg [.el,
  .op (.C (.cf 82 [(.sl r6)])) true none,
  .op (.P (.mv (.st 0))) false (some r8)])
 (.cond (.sl r8) (.seq (.reg [.el,
  .el,
  .op (.C (.cf 55 [(.sl r1), (.sl r0), (.k (.fn 83 [] []))])) true none,
  .op (.P (.mv (.st 0))) false (some r4)])
 (.seq (.reg [.el,
  .el,
  .el,
  .el,
  .op (.P (.ar .add (.sl r0) (.sl r4))) true none,
  .op (.P (.sls (.sl r1) (some (.sl r0)) (some (.st 0)))) true none,
  .op (.P (.mv (.st 0))) false (some r3)])
 (.seq (.block 1 (.seq (.reg [.el,
  .op (.C (.cf 84 [(.sl r3)])) true none,
  .op (.P (.mv (.st 0))) false (some r9)])
 (.cond (.sl r9) (.seq (.reg [.el,
  .el,
  .op (.P (.bld [(.int .i64 0), (.str 0 0), (.int .i64 0)] [(0, 1, (.k (.int .i64 3))), (1, 1, (.sl r3)), (2, 1, (.sl r0))])) true none,
  .el,
  .op (.W (.st 3 (.sl r2) (.st 0))) false none,
  .op (.P (.mv (.sl r4))) false (some r19)])
 (.ret))
 (.seq (.reg [.el,
  .op (.C (.cf 62 [(.sl r3)])) true none,
  .op (.P (.mv (.st 0))) false (some r10)])
 (.cond (.sl r10) (.seq (.reg [.el,
  .el,
  .op (.P (.bld [(.int .i64 0), (.str 0 0), (.int .i64 0)] [(0, 1, (.k (.int .i64 1))), (1, 1, (.sl r3)), (2, 1, (.sl r0))])) true none,
  .el,
  .op (.W (.st 3 (.sl r2) (.st 0))) false none,
  .op (.P (.mv (.sl r4))) false (some r19)])
 (.ret))
 (.seq (.reg [.el,
  .op (.C (.cf 85 [(.sl r3)])) true none,
  .op (.P (.mv (.st 0))) false (some r11)])
 (.cond (.sl r11) (.seq (.reg [.el,
  .el,
  .op (.P (.bld [(.int .i64 0), (.str 0 0), (.int .i64 0)] [(0, 1, (.k (.int .i64 2))), (1, 1, (.sl r3)), (2, 1, (.sl r0))])) true none,
  .el,
  .op (.W (.st 3 (.sl r2) (.st 0))) false none,
  .op (.P (.mv (.sl r4))) false (some r19)])
 (.ret))
 (.skip))))))))
 (.seq (.reg [.op (.P (.bld [(.int .i64 0), (.str 0 0), (.int .i64 0)] [])) true none,
  .op (.W (.st 3 (.sl r2) (.st 0))) false none,
  .op (.P (.mv (.k (.int .i64 0)))) false (some r19)])
 (.ret)))))
 (.seq (.reg [.el,
  .op (.C (.cf 86 [(.sl r6)])) true none,
  .op (.P (.mv (.st 0))) false (some r12)])
 (.cond (.sl r12) (.seq (.reg [.el,
  .el,
  .op (.C (.cf 55 [(.sl r1), (.sl r0), (.k (.fn 86 [] []))])) true none,
  .op (.P (.mv (.st 0))) false (some r7)])
 (.seq (.seq (.reg [.el,
  .el,
  .op (.P (.ar .add (.sl r0) (.sl r7))) true none,
  .el,
  .op (.P (.ln 0 (.sl r1))) true none,
  .op (.P (.cmi .lss (.st 1) (.st 0))) true none,
  .el,
  .op (.G (.st 0) true (.P (.mv (.sl r1)))) true none,
  .op (.G (.st 1) true (.P (.mv (.sl r0)))) true none,
  .op (.G (.st 2) true (.P (.mv (.sl r7)))) true none,
  .op (.G (.st 3) true (.P (.ar .add (.st 1) (.st 0)))) true none,
  .op (.G (.st 4) true (.P (.idxs (.st 3) (.st 0)))) true none,
  .op (.G (.st 5) true (.C (.cf 83 [(.st 0)]))) true none,
  .op (.P (.pick (.st 6) (.st 0) (.k (.bool false)))) false (some r13)])
 (.cond (.sl r13) (.seq (.reg [.op (.P (.bld [(.int .i64 0), (.str 0 0), (.int .i64 0)] [])) true none,
  .op (.W (.st 3 (.sl r2) (.st 0))) false none,
  .op (.P (.mv (.k (.int .i64 0)))) false (some r19)])
 (.ret))
 (.skip)))
 (.seq (.reg [.el,
  .el,
  .el,
  .el,
  .op (.P (.ar .add (.sl r0) (.sl r7))) true none,
  .op (.P (.sls (.sl r1) (some (.sl r0)) (some (.st 0)))) true none,
  .el,
  .op (.P (.bld [(.int .i64 0), (.str 0 0), (.int .i64 0)] [(0, 1, (.k (.int .i64 4))), (1, 1, (.st 0)), (2, 1, (.sl r0))])) true none,
  .el,
  .op (.W (.st 3 (.sl r2) (.st 0))) false none,
  .op (.P (.mv (.sl r7))) false (some r19)])
 (.ret))))
 (.seq (.reg [.el,
  .op (.P (.cmi .eql (.sl r6) (.k (.int .u8 34)))) true none,
  .op (.P (.mv (.st 0))) false (some r14)])
 (.cond (.sl r14) (.seq (.reg [.el,
  .el,
  .op (.P (.sls (.sl r1) (some (.sl r0)) none)) true none,
  .op (.C (.cf 87 [(.st 0)])) true none,
  .el,
  .op (.P (.ext 0 (.st 0))) true none,
  .op (.P (.ext 1 (.st 1))) true none,
  .op (.P (.mv (.st 1))) false (some r16),
  .op (.P (.mv (.st 0))) false (some r15)])
 (.seq (.reg [.el,
  .el,
  .op (.P (.bld [(.int .i64 0), (.str 0 0), (.int .i64 0)] [(0, 1, (.k (.int .i64 5))), (1, 1, (.sl r16)), (2, 1, (.sl r0))])) true none,
  .el,
  .op (.W (.st 3 (.sl r2) (.st 0))) false none,
  .op (.P (.mv (.sl r15))) false (some r19)])
 (.ret)))
 (.skip)))))))))
 (.seq (.seq (.reg [.el,
  .op (.P (.ln 0 (.sl r1))) true none,
  .el,
  .op (.P (.ar .sub (.st 0) (.sl r0))) true none,
  .op (.P (.mx true [(.k (.int .i64 2)), (.st 0)])) true none,
  .op (.P (.mv (.st 0))) false (some r5)])
 (.block 2 (.loop (.seq (.seq (.reg [.el,
  .op (.P (.cmi .gtr (.sl r5) (.k (.int .i64 0)))) false (some r17)])
 (.cond (.sl r17) (.skip)
 (.exit 2)))
 (.seq (.block 3 (.seq (.reg [.el,
  .el,
  .el,
  .el,
  .op (.P (.ar .add (.sl r0) (.sl r5))) true none,
  .op (.P (.sls (.sl r1) (some (.sl r0)) (some (.st 0)))) true none,
  .op (.C (.cf 88 [(.st 0)])) false (some r18)])
 (.cond (.sl r18) (.seq (.reg [.el,
  .el,
  .el,
  .el,
  .op (.P (.ar .add (.sl r0) (.sl r5))) true none,
  .op (.P (.sls (.sl r1) (some (.sl r0)) (some (.st 0)))) true none,
  .el,
  .op (.P (.bld [(.int .i64 0), (.str 0 0), (.int .i64 0)] [(0, 1, (.k (.int .i64 6))), (1, 1, (.st 0)), (2, 1, (.sl r0))])) true none,
  .el,
  .op (.W (.st 3 (.sl r2) (.st 0))) false none,
  .op (.P (.mv (.sl r5))) false (some r19)])
 (.ret))
 (.skip))))
 (.reg [.op (.P (.mv (.sl r5))) true none,
  .op (.P (.ar .sub (.st 0) (.k (.int .i64 1)))) true none,
  .op (.P (.mv (.st 0))) false (some r5)]))))))
 (.seq (.reg [.op (.P (.bld [(.int .i64 0), (.str 0 0), (.int .i64 0)] [])) true none,
  .op (.W (.st 3 (.sl r2) (.st 0))) false none,
  .op (.P (.mv (.k (.int .i64 0)))) false (some r19)])
 (.ret)))))
  [.cell (.sl r2) 3 true, .sl (.sl r19)]

def m58 : SlotMap := [(8, r0), (0, r1), (1, r2), (7, r3), (9, r4), (6, r5), (5, r6), (15, r7)]
def c58 : VFn :=
 VFn.mk [some r1, some r2] (.seq (.reg [.op (.P (.mv (.sl r2))) false (some r5),
  .op (.P (.ln 1 (.sl r5))) false (some r3),
  .op (.P (.mv (.k (.int .i64 0)))) false (some r0)])
 (.block 0 (.loop (.seq (.reg [.op (.P (.cmi .lss (.sl r0) (.sl r3))) false (some r4)])
 (.seq (.cond (.sl r4) (.skip)
 (.exit 0))
 (.seq (.block 1 (.seq (.reg [.op (.P (.ia 1 (.sl r5) (.sl r0))) true none,
  .op (.R (.ld 1 false (.st 0))) true none,
  .op (.P (.mv (.st 0))) false (some r6)])
 (.seq (.reg [.el,
  .el,
  .op (.C (.cf 89 [(.sl r1), (.sl r6)])) true none,
  .op (.P (.no (.st 0))) false (some r7)])
 (.cond (.sl r7) (.reg [.el,
  .op (.C (.cf 90 [(.sl r1)])) false none])
 (.skip)))))
 (.reg [.op (.P (.ar .add (.sl r0) (.k (.int .i64 1)))) true none,
  .op (.P (.mv (.st 0))) false (some r0)])))))))
  []

def m59 : SlotMap := [(0, r0), (2, r1)]
def c59 : VFn :=
 VFn.mk [some r0] (.seq (.reg [.op (.P (.mv (.k (.str 0 0)))) false (some r1)])
 (.seq (.reg [.el,
  .op (.C (.cf 91 [(.sl r0), (.k (.int .i64 1))])) true none,
  .op (.P (.mv (.st 0))) false (some r1)])
 (.ret)))
  [.sl (.sl r1)]

def m60 : SlotMap := [(0, r0), (1, r1), (12, r2), (16, r3), (5, r4), (7, r5), (29, r6), (6, r7), (4, r8)]
def c60 : VFn :=
 VFn.mk [some r0, some r1] (.seq (.reg [.op (.P (.mv (.k (.int .i64 0)))) false (some r8)])
 (.seq (.reg [.op (.P (.mv (.k (.str 0 0)))) false (some r4)])
 (.seq (.seq (.reg [.el,
  .el,
  .op (.G (.sl r1) true (.P (.mv (.sl r0)))) true none,
  .op (.G (.sl r1) true (.C (.cf 89 [(.st 0), (.k (.str 1 45))]))) true none,
  .op (.P (.pick (.sl r1) (.st 0) (.k (.bool false)))) false (some r2)])
 (.cond (.sl r2) (.reg [.op (.P (.mv (.k (.str 1 45)))) false (some r4)])
 (.skip)))
 (.seq (.seq (.reg [.el,
  .op (.C (.cf 92 [(.sl r0)])) true none,
  .op (.P (.fld 0 1 false (.st 0))) true none,
  .op (.P (.cmi .neq (.st 0) (.k (.int .i64 4)))) false (some r3)])
 (.cond (.sl r3) (.reg [.el,
  .op (.C (.cf 90 [(.sl r0)])) false none])
 (.skip)))
 (.seq (.reg [.el,
  .el,
  .op (.C (.cf 92 [(.sl r0)])) true none,
  .op (.P (.fld 1 1 false (.st 0))) true none,
  .op (.P (.cat (.sl r4) (.st 0))) true none,
  .op (.C (.cf 93 [(.st 0), (.k (.int .i64 10)), (.k (.int .i64 64))])) true none,
  .el,
  .op (.P (.ext 0 (.st 0))) true none,
  .op (.P (.ext 1 (.st 1))) true none,
  .op (.P (.mv (.st 1))) false (some r7),
  .op (.P (.mv (.st 0))) false (some r5)])
 (.seq (.seq (.reg [.el,
  .op (.P (.cmn 0 true (.sl r5))) false (some r6)])
 (.cond (.sl r6) (.reg [.el,
  .op (.C (.cf 90 [(.sl r0)])) false none])
 (.skip)))
 (.seq (.reg [.el,
  .op (.P (.nn (.sl r0))) true none,
  .op (.P (.fa 1 (.st 0))) true none,
  .op (.R (.ld 1 false (.st 0))) true none,
  .op (.P (.ar .add (.st 0) (.k (.int .i64 1)))) true none,
  .op (.P (.nn (.sl r0))) true none,
  .op (.P (.fa 1 (.st 0))) true none,
  .op (.W (.st 1 (.st 0) (.st 2))) false none])
 (.seq (.reg [.el,
  .op (.P (.mv (.sl r7))) false (some r8)])
 (.ret)))))))))
  [.sl (.sl r8)]

def m61 : SlotMap := [(2, r0), (1, r1), (7, r2), (6, r3), (5, r4), (0, r5), (10, r6), (4, r7), (33, r8), (47, r9), (67, r10), (94, r11), (108, r12)]
def c61 : VFn :=
 VFn.mk [some r5, some r1] (.seq (.reg [.op (.F (.bx 150 (.sl r5))) false (some r0)])
 (.block 0 (.seq (.reg [.op (.R (.ld 1 false (.sl r0))) true none,
  .op (.C (.cf 89 [(.st 0), (.k (.str 3 7697253))])) true none,
  .op (.P (.mv (.st 0))) false (some r6)])
 (.cond (.sl r6) (.seq (.dreg [(.r 0 0, .op (.R (.ld 1 false (.sl r0))) true none),
  (.h [], .op (.C (.cf 59 [(.st 0)])) true none),
  (.r 0 1, .op (.R (.ld 1 false (.sl r0))) true none),
  (.h [], .op (.C (.cf 60 [(.st 0), (.k (.bool false))])) true none),
  (.r 0 2, .op (.R (.ld 1 false (.sl r0))) true none),
  (.h [], .op (.C (.cf 60 [(.st 0), (.k (.bool false))])) true none),
  (.q, .op (.P (.bld [(.str 0 0), (.int .i64 0), (.int .i64 0)] [(0, 1, (.st 4)), (1, 1, (.st 2)), (2, 1, (.st 0))])) true none),
  (.f, .op (.F (.al 193 [(.str 0 0), (.int .i64 0), (.int .i64 0)])) false (some r7)),
  (.h [7], .op (.W (.st 3 (.sl r7) (.st 0))) false none)])
 (.seq (.reg [.op (.R (.ld 1 false (.sl r0))) true none,
  .op (.F (.bsl 9 1 1 [(.str 0 0)] [(0, 1, (.k (.str 1 59)))])) true none,
  .op (.C (.cf 58 [(.st 1), (.st 0)])) false none])
 (.dreg [(.q, .op (.P (.mv (.sl r1))) true none),
  (.q, .op (.P (.mv (.sl r1))) true none),
  (.q, .op (.P (.nn (.st 0))) true none),
  (.q, .op (.P (.fa 2 (.st 0))) true none),
  (.r 0 0, .op (.R (.ld 1 false (.st 0))) true none),
  (.r 0 0, .op (.R (.ld 3 true (.sl r7))) true none),
  (.f, .op (.F (.bsl 193 3 1 [(.str 0 0), (.int .i64 0), (.int .i64 0)] [(0, 3, (.st 0))])) true none),
  (.h [6], .op (.W (.app 193 3 (.st 2) (.st 0))) true none),
  (.q, .op (.P (.nn (.st 7))) true none),
  (.q, .op (.P (.fa 2 (.st 0))) true none),
  (.h [6], .op (.W (.st 1 (.st 0) (.st 2))) false none)])))
 (.seq (.reg [.op (.R (.ld 1 false (.sl r0))) true none,
  .op (.C (.cf 89 [(.st 0), (.k (.str 4 1684108385))])) true none,
  .op (.P (.mv (.st 0))) false (some r8)])
 (.cond (.sl r8) (.dreg [(.q, .op (.P (.mv (.sl r1))) true none),
  (.q, .op (.P (.mv (.sl r1))) true none),
  (.q, .op (.P (.nn (.st 0))) true none),
  (.q, .op (.P (.fa 3 (.st 0))) true none),
  (.r 0 1, .op (.R (.ld 1 false (.st 0))) true none),
  (.r 0 0, .op (.R (.ld 1 false (.sl r0))) true none),
  (.h [], .op (.C (.cf 94 [(.st 0)])) true none),
  (.f, .op (.F (.bsl 87 3 1 [(.str 0 0), .nils, .nils] [(0, 3, (.st 0))])) true none),
  (.h [7], .op (.W (.app 87 3 (.st 3) (.st 0))) true none),
  (.q, .op (.P (.nn (.st 8))) true none),
  (.q, .op (.P (.fa 3 (.st 0))) true none),
  (.h [7], .op (.W (.st 1 (.st 0) (.st 2))) false none)])
 (.seq (.reg [.op (.R (.ld 1 false (.sl r0))) true none,
  .op (.C (.cf 89 [(.st 0), (.k (.str 5 500135192948))])) true none,
  .op (.P (.mv (.st 0))) false (some r9)])
 (.cond (.sl r9) (.seq (.reg [.op (.R (.ld 1 false (.sl r0))) true none,
  .op (.C (.cf 95 [(.st 0)])) true none,
  .op (.P (.bld [(.str 0 0), .nils] [(0, 1, (.st 0))])) true none,
  .op (.F (.al 95 [(.str 0 0), .nils])) false (some r4),
  .op (.W (.st 2 (.sl r4) (.st 0))) false none])
 (.seq (.reg [.op (.R (.ld 1 false (.sl r0))) true none,
  .op (.P (.mkf 97 [] [(.sl r0)])) true none,
  .op (.C (.cf 96 [(.st 1), (.st 0)])) true none,
  .op (.P (.fa 1 (.sl r4))) true none,
  .op (.W (.st 1 (.st 0) (.st 1))) false none])
 (.dreg [(.q, .op (.P (.mv (.sl r1))) true none),
  (.q, .op (.P (.mv (.sl r1))) true none),
  (.q, .op (.P (.nn (.st 0))) true none),
  (.q, .op (.P (.fa 4 (.st 0))) true none),
  (.r 0 0, .op (.R (.ld 1 false (.st 0))) true none),
  (.r 0 0, .op (.R (.ld 2 true (.sl r4))) true none),
  (.f, .op (.F (.bsl 95 2 1 [(.str 0 0), .nils] [(0, 2, (.st 0))])) true none),
  (.h [6], .op (.W (.app 95 2 (.st 2) (.st 0))) true none),
  (.q, .op (.P (.nn (.st 7))) true none),
  (.q, .op (.P (.fa 4 (.st 0))) true none),
  (.h [6], .op (.W (.st 1 (.st 0) (.st 2))) false none)])))
 (.seq (.reg [.op (.R (.ld 1 false (.sl r0))) true none,
  .op (.C (.cf 89 [(.st 0), (.k (.str 4 1768779884))])) true none,
  .op (.P (.mv (.st 0))) false (some r10)])
 (.cond (.sl r10) (.seq (.reg [.op (.R (.ld 1 false (.sl r0))) true none,
  .op (.C (.cf 95 [(.st 0)])) true none,
  .op (.P (.bld [(.str 0 0), (.str 0 0), .nils] [(0, 1, (.st 0))])) true none,
  .op (.F (.al 106 [(.str 0 0), (.str 0 0), .nils])) false (some r3),
  .op (.W (.st 3 (.sl r3) (.st 0))) false none])
 (.seq (.reg [.op (.R (.ld 1 false (.sl r0))) true none,
  .op (.F (.bsl 9 1 1 [(.str 0 0)] [(0, 1, (.k (.str 3 6713202)))])) true none,
  .op (.C (.cf 58 [(.st 1), (.st 0)])) false none])
 (.seq (.reg [.op (.R (.ld 1 false (.sl r0))) true none,
  .op (.C (.cf 99 [(.st 0)])) true none,
  .op (.P (.fa 1 (.sl r3))) true none,
  .op (.W (.st 1 (.st 0) (.st 1))) false none])
 (.seq (.reg [.op (.R (.ld 1 false (.sl r0))) true none,
  .op (.R (.ld 1 false (.sl r0))) true none,
  .op (.P (.mkf 100 [(.st 0)] [])) true none,
  .op (.C (.cf 96 [(.st 2), (.st 0)])) true none,
  .op (.P (.fa 2 (.sl r3))) true none,
  .op (.W (.st 1 (.st 0) (.st 1))) false none])
 (.dreg [(.q, .op (.P (.mv (.sl r1))) true none),
  (.q, .op (.P (.mv (.sl r1))) true none),
  (.q, .op (.P (.nn (.st 0))) true none),
  (.q, .op (.P (.fa 5 (.st 0))) true none),
  (.r 0 0, .op (.R (.ld 1 false (.st 0))) true none),
  (.r 0 0, .op (.R (.ld 3 true (.sl r3))) true none),
  (.f, .op (.F (.bsl 106 3 1 [(.str 0 0), (.str 0 0), .nils] [(0, 3, (.st 0))])) true none),
  (.h [6], .op (.W (.app 106 3 (.st 2) (.st 0))) true none),
  (.q, .op (.P (.nn (.st 7))) true none),
  (.q, .op (.P (.fa 5 (.st 0))) true none),
  (.h [6], .op (.W (.st 1 (.st 0) (.st 2))) false none)])))))
 (.seq (.reg [.op (.R (.ld 1 false (.sl r0))) true none,
  .op (.C (.cf 89 [(.st 0), (.k (.str 3 6714734))])) true none,
  .op (.P (.mv (.st 0))) false (some r11)])
 (.cond (.sl r11) (.dreg [(.q, .op (.P (.mv (.sl r1))) true none),
  (.q, .op (.P (.mv (.sl r1))) true none),
  (.q, .op (.P (.nn (.st 0))) true none),
  (.q, .op (.P (.fa 6 (.st 0))) true none),
  (.r 0 1, .op (.R (.ld 1 false (.st 0))) true none),
  (.r 0 0, .op (.R (.ld 1 false (.sl r0))) true none),
  (.h [], .op (.C (.cf 100 [(.st 0)])) true none),
  (.f, .op (.F (.bsl 103 15 1 [(.str 0 0), .nils, .nils, .nils, (.int .i64 0), (.str 0 0), .nils, (.int .i64 0), (.int .i64 0), (.str 0 0), .nils, .nils, .nils, .nils, (.int .i64 0)] [(0, 15, (.st 0))])) true none),
  (.h [7], .op (.W (.app 103 15 (.st 3) (.st 0))) true none),
  (.q, .op (.P (.nn (.st 8))) true none),
  (.q, .op (.P (.fa 6 (.st 0))) true none),
  (.h [7], .op (.W (.st 1 (.st 0) (.st 2))) false none)])
 (.seq (.reg [.op (.R (.ld 1 false (.sl r0))) true none,
  .op (.C (.cf 89 [(.st 0), (.k (.str 5 418280402802))])) true none,
  .op (.P (.mv (.st 0))) false (some r12)])
 (.cond (.sl r12) (.seq (.reg [.op (.R (.ld 1 false (.sl r0))) true none,
  .op (.C (.cf 95 [(.st 0)])) true none,
  .op (.P (.bld [(.str 0 0), .nils, .nils, (.int .i64 0), (.str 0 0), .nils, (.int .i64 0), (.int .i64 0), (.str 0 0), .nils, .nils, .nils, .nils, (.int .i64 0)] [(0, 1, (.st 0))])) true none,
  .op (.F (.al 115 [(.str 0 0), .nils, .nils, (.int .i64 0), (.str 0 0), .nils, (.int .i64 0), (.int .i64 0), (.str 0 0), .nils, .nils, .nils, .nils, (.int .i64 0)])) false (some r2),
  .op (.W (.st 14 (.sl r2) (.st 0))) false none])
 (.seq (.reg [.op (.R (.ld 1 false (.sl r0))) true none,
  .op (.C (.cf 101 [(.st 0)])) true none,
  .el,
  .op (.P (.ext 0 (.st 0))) true none,
  .op (.P (.ext 1 (.st 1))) true none,
  .op (.P (.fa 1 (.sl r2))) true none,
  .op (.W (.st 1 (.st 0) (.st 2))) false none,
  .op (.P (.fa 2 (.sl r2))) true none,
  .op (.W (.st 1 (.st 0) (.st 2))) false none])
 (.seq (.reg [.op (.R (.ld 1 false (.sl r0))) true none,
  .op (.F (.bsl 9 1 1 [(.str 0 0)] [(0, 1, (.k (.str 1 58)))])) true none,
  .op (.C (.cf 58 [(.st 1), (.st 0)])) false none])
 (.seq (.reg [.op (.R (.ld 1 false (.sl r0))) true none,
  .op (.C (.cf 102 [(.st 0)])) true none,
  .op (.P (.fa 3 (.sl r2))) true none,
  .op (.W (.st 3 (.st 0) (.st 1))) false none])
 (.seq (.reg [.op (.R (.ld 1 false (.sl r0))) true none,
  .op (.F (.bsl 9 1 1 [(.str 0 0)] [(0, 1, (.k (.str 1 61)))])) true none,
  .op (.C (.cf 58 [(.st 1), (.st 0)])) false none])
 (.seq (.reg [.op (.R (.ld 1 false (.sl r0))) true none,
  .op (.C (.cf 103 [(.st 0)])) true none,
  .op (.P (.fa 6 (.sl r2))) true none,
  .op (.W (.st 8 (.st 0) (.st 1))) false none])
 (.seq (.reg [.op (.R (.ld 1 false (.sl r0))) true none,
  .op (.F (.bsl 9 1 1 [(.str 0 0)] [(0, 1, (.k (.str 1 59)))])) true none,
  .op (.C (.cf 58 [(.st 1), (.st 0)])) false none])
 (.dreg [(.q, .op (.P (.mv (.sl r1))) true none),
  (.q, .op (.P (.mv (.sl r1))) true none),
  (.q, .op (.P (.nn (.st 0))) true none),
  (.q, .op (.P (.fa 7 (.st 0))) true none),
  (.r 0 0, .op (.R (.ld 1 false (.st 0))) true none),
  (.r 0 0, .op (.R (.ld 14 true (.sl r2))) true none),
  (.f, .op (.F (.bsl 115 14 1 [(.str 0 0), .nils, .nils, (.int .i64 0), (.str 0 0), .nils, (.int .i64 0), (.int .i64 0), (.str 0 0), .nils, .nils, .nils, .nils, (.int .i64 0)] [(0, 14, (.st 0))])) true none),
  (.h [6], .op (.W (.app 115 14 (.st 2) (.st 0))) true none),
  (.q, .op (.P (.nn (.st 7))) true none),
  (.q, .op (.P (.fa 7 (.st 0))) true none),
  (.h [6], .op (.W (.st 1 (.st 0) (.st 2))) false none)]))))))))
 (.reg [.op (.R (.ld 1 false (.sl r0))) true none,
  .op (.C (.cf 90 [(.st 0)])) false none])))))))))))))))
  []

def m62 : SlotMap := [(0, r0), (2, r1)]
def c62 : VFn :=
 VFn.mk [some r0] (.seq (.reg [.op (.P (.mv (.k (.bool false)))) false (some r1)])
 (.seq (.reg [.el,
  .op (.C (.cf 104 [(.sl r0)])) true none,
  .el,
  .op (.G (.st 0) true (.P (.mv (.sl r0)))) true none,
  .op (.G (.st 1) true (.P (.idxs (.st 0) (.k (.int .i64 0))))) true none,
  .op (.G (.st 2) true (.C (.cf 105 [(.st 0)]))) true none,
  .op (.P (.pick (.st 3) (.st 0) (.k (.bool false)))) true none,
  .el,
  .op (.G (.st 0) true (.P (.mv (.sl r0)))) true none,
  .op (.G (.st 1) true (.C (.cf 84 [(.st 0)]))) true none,
  .op (.G (.st 2) true (.P (.no (.st 0)))) true none,
  .op (.P (.pick (.st 3) (.st 0) (.k (.bool false)))) true none,
  .op (.P (.mv (.st 0))) false (some r1)])
 (.ret)))
  [.sl (.sl r1)]

def m63 : SlotMap := [(0, r0), (2, r1)]
def c63 : VFn :=
 VFn.mk [some r0] (.seq (.reg [.op (.P (.mv (.k (.bool false)))) false (some r1)])
 (.seq (.reg [.el,
  .op (.P (.cmi .geq (.sl r0) (.k (.int .i64 0)))) true none,
  .el,
  .op (.G (.st 0) true (.P (.mv (.sl r0)))) true none,
  .op (.G (.st 1) true (.P (.cmi .leq (.st 0) (.k (.int .i64 1000000))))) true none,
  .op (.P (.pick (.st 2) (.st 0) (.k (.bool false)))) true none,
  .op (.P (.mv (.st 0))) false (some r1)])
 (.ret)))
  [.sl (.sl r1)]

def m64 : SlotMap := [(10, r0), (7, r1), (0, r2), (9, r3), (11, r4), (8, r5), (6, r6), (1, r7), (18, r8), (4, r9)]
def c64 : VFn :=
 VFn.mk [some r2, some r7] (.seq (.reg [.op (.P (.mv (.k (.int .i64 0)))) false (some r9)])
 (.seq (.seq (.reg [.op (.P (.mv (.sl r2))) false (some r5),
  .op (.P (.ln 1 (.sl r5))) false (some r3),
  .op (.P (.mv (.k (.int .i64 0)))) false (some r0)])
 (.block 0 (.loop (.seq (.reg [.op (.P (.cmi .lss (.sl r0) (.sl r3))) false (some r4)])
 (.seq (.cond (.sl r4) (.skip)
 (.exit 0))
 (.seq (.block 1 (.seq (.reg [.op (.P (.ia 3 (.sl r5) (.sl r0))) true none,
  .op (.R (.ld 3 true (.st 0))) true none,
  .op (.F (.al 193 [(.str 0 0), (.int .i64 0), (.int .i64 0)])) false (some r6),
  .op (.W (.st 3 (.sl r6) (.st 0))) false none])
 (.seq (.reg [.el,
  .op (.R (.ld 3 true (.sl r6))) true none,
  .op (.C (.cv (.sl r7) [(.st 0)])) true none,
  .op (.P (.mv (.st 0))) false (some r1)])
 (.seq (.reg [.el,
  .op (.P (.cmi .neq (.sl r1) (.k (.int .i64 0)))) false (some r8)])
 (.cond (.sl r8) (.seq (.reg [.el,
  .op (.P (.mv (.sl r1))) false (some r9)])
 (.ret))
 (.skip))))))
 (.reg [.op (.P (.ar .add (.sl r0) (.k (.int .i64 1)))) true none,
  .op (.P (.mv (.st 0))) false (some r0)])))))))
 (.seq (.reg [.op (.P (.mv (.k (.int .i64 0)))) false (some r9)])
 (.ret))))
  [.sl (.sl r9)]

def m65 : SlotMap := [(0, r0), (1, r1), (2, r2)]
def c65 : VFn :=
 VFn.mk [some r0] (.seq (.reg [.op (.F (.bx 193 (.sl r0))) false (some r1),
  .op (.P (.mv (.k (.int .i64 0)))) false (some r2)])
 (.seq (.reg [.op (.P (.fa 0 (.sl r1))) true none,
  .op (.R (.ld 1 false (.st 0))) true none,
  .op (.C (.cf 62 [(.st 0)])) true none,
  .op (.P (.no (.st 0))) true none,
  .el,
  .op (.G (.st 0) false (.P (.fa 1 (.sl r1)))) true none,
  .op (.G (.st 1) false (.R (.ld 1 false (.st 0)))) true none,
  .op (.G (.st 2) false (.C (.cf 63 [(.st 0)]))) true none,
  .op (.G (.st 3) false (.P (.no (.st 0)))) true none,
  .op (.P (.pick (.st 4) (.k (.bool true)) (.st 0))) true none,
  .el,
  .op (.G (.st 0) false (.P (.fa 2 (.sl r1)))) true none,
  .op (.G (.st 1) false (.R (.ld 1 false (.st 0)))) true none,
  .op (.G (.st 2) false (.C (.cf 63 [(.st 0)]))) true none,
  .op (.G (.st 3) false (.P (.no (.st 0)))) true none,
  .op (.P (.pick (.st 4) (.k (.bool true)) (.st 0))) true none,
  .el,
  .op (.G (.st 0) false (.P (.fa 1 (.sl r1)))) true none,
  .op (.G (.st 1) false (.R (.ld 1 false (.st 0)))) true none,
  .op (.G (.st 2) false (.P (.fa 2 (.sl r1)))) true none,
  .op (.G (.st 3) false (.R (.ld 1 false (.st 0)))) true none,
  .op (.G (.st 4) false (.P (.cmi .gtr (.st 2) (.st 0)))) true none,
  .op (.P (.pick (.st 5) (.k (.bool true)) (.st 0))) true none,
  .op (.C (.cf 106 [(.st 0), (.k (.int .i64 3))])) true none,
  .op (.P (.mv (.st 0))) false (some r2)])
 (.ret)))
  [.sl (.sl r2)]

def m66 : SlotMap := [(10, r0), (7, r1), (0, r2), (9, r3), (11, r4), (8, r5), (6, r6), (1, r7), (18, r8), (4, r9)]
def c66 : VFn :=
 VFn.mk [some r2, some r7] (.seq (.reg [.op (.P (.mv (.k (.int .i64 0)))) false (some r9)])
 (.seq (.seq (.reg [.op (.P (.mv (.sl r2))) false (some r5),
  .op (.P (.ln 1 (.sl r5))) false (some r3),
  .op (.P (.mv (.k (.int .i64 0)))) false (some r0)])
 (.block 0 (.loop (.seq (.reg [.op (.P (.cmi .lss (.sl r0) (.sl r3))) false (some r4)])
 (.seq (.cond (.sl r4) (.skip)
 (.exit 0))
 (.seq (.block 1 (.seq (.reg [.op (.P (.ia 3 (.sl r5) (.sl r0))) true none,
  .op (.R (.ld 3 true (.st 0))) true none,
  .op (.F (.al 87 [(.str 0 0), .nils, .nils])) false (some r6),
  .op (.W (.st 3 (.sl r6) (.st 0))) false none])
 (.seq (.reg [.el,
  .op (.R (.ld 3 true (.sl r6))) true none,
  .op (.C (.cv (.sl r7) [(.st 0)])) true none,
  .op (.P (.mv (.st 0))) false (some r1)])
 (.seq (.reg [.el,
  .op (.P (.cmi .neq (.sl r1) (.k (.int .i64 0)))) false (some r8)])
 (.cond (.sl r8) (.seq (.reg [.el,
  .op (.P (.mv (.sl r1))) false (some r9)])
 (.ret))
 (.skip))))))
 (.reg [.op (.P (.ar .add (.sl r0) (.k (.int .i64 1)))) true none,
  .op (.P (.mv (.st 0))) false (some r0)])))))))
 (.seq (.reg [.op (.P (.mv (.k (.int .i64 0)))) false (some r9)])
 (.ret))))
  [.sl (.sl r9)]

def m67 : SlotMap := [(1, r0), (3, r1), (0, r2), (18, r3), (30, r4), (2, r5)]
def c67 : VFn :=
 VFn.mk [some r2] (.seq (.reg [.op (.F (.bx 87 (.sl r2))) false (some r0),
  .op (.P (.mv (.k (.int .i64 0)))) false (some r5)])
 (.seq (.seq (.reg [.op (.P (.fa 0 (.sl r0))) true none,
  .op (.R (.ld 1 false (.st 0))) true none,
  .op (.C (.cf 85 [(.st 0)])) true none,
  .op (.P (.no (.st 0))) true none,
  .el,
  .op (.G (.st 0) false (.P (.fa 0 (.sl r0)))) true none,
  .op (.G (.st 1) false (.R (.ld 1 false (.st 0)))) true none,
  .op (.G (.st 2) false (.C (.cf 107 [(.st 0)]))) true none,
  .op (.P (.pick (.st 3) (.k (.bool true)) (.st 0))) true none,
  .el,
  .op (.G (.st 0) false (.P (.fa 2 (.sl r0)))) true none,
  .op (.G (.st 1) false (.R (.ld 1 false (.st 0)))) true none,
  .op (.G (.st 2) false (.P (.ln 1 (.st 0)))) true none,
  .op (.G (.st 3) false (.P (.cmi .eql (.st 0) (.k (.int .i64 0))))) true none,
  .op (.P (.pick (.st 4) (.k (.bool true)) (.st 0))) false (some r3)])
 (.cond (.sl r3) (.seq (.reg [.op (.P (.mv (.k (.int .i64 3)))) false (some r5)])
 (.ret))
 (.skip)))
 (.seq (.seq (.dreg [(.q, .op (.P (.fa 1 (.sl r0))) true none),
  (.r 0 0, .op (.R (.ld 1 false (.st 0))) true none),
  (.h [], .op (.C (.cf 109 [(.st 0)])) true none),
  (.q, .op (.P (.fa 2 (.sl r0))) true none),
  (.r 0 1, .op (.R (.ld 1 false (.st 0))) true none),
  (.q, .op (.P (.ln 1 (.st 0))) true none),
  (.q, .op (.P (.cmi .gtr (.st 0) (.k (.int .i64 12)))) true none),
  (.h [], .op (.C (.cf 106 [(.st 0), (.k (.int .i64 2))])) true none),
  (.f, .op (.F (.bsl 59 1 2 [(.int .i64 0), (.int .i64 0)] [(0, 1, (.st 5)), (1, 1, (.st 0))])) true none),
  (.h [8], .op (.C (.cf 108 [(.st 0)])) true none),
  (.q, .op (.P (.mv (.st 0))) false (some r1))])
 (.seq (.reg [.el,
  .op (.P (.cmi .neq (.sl r1) (.k (.int .i64 0)))) false (some r4)])
 (.cond (.sl r4) (.seq (.reg [.el,
  .op (.P (.mv (.sl r1))) false (some r5)])
 (.ret))
 (.skip))))
 (.seq (.reg [.op (.P (.fa 2 (.sl r0))) true none,
  .op (.R (.ld 1 false (.st 0))) true none,
  .op (.C (.cf 110 [(.st 0), (.k (.fn 111 [] []))])) true none,
  .op (.P (.mv (.st 0))) false (some r5)])
 (.ret)))))
  [.sl (.sl r5)]

def m68 : SlotMap := [(10, r0), (7, r1), (0, r2), (9, r3), (11, r4), (8, r5), (6, r6), (1, r7), (18, r8), (4, r9)]
def c68 : VFn :=
 VFn.mk [some r2, some r7] (.seq (.reg [.op (.P (.mv (.k (.int .i64 0)))) false (some r9)])
 (.seq (.seq (.reg [.op (.P (.mv (.sl r2))) false (some r5),
  .op (.P (.ln 1 (.sl r5))) false (some r3),
  .op (.P (.mv (.k (.int .i64 0)))) false (some r0)])
 (.block 0 (.loop (.seq (.reg [.op (.P (.cmi .lss (.sl r0) (.sl r3))) false (some r4)])
 (.seq (.cond (.sl r4) (.skip)
 (.exit 0))
 (.seq (.block 1 (.seq (.reg [.op (.P (.ia 2 (.sl r5) (.sl r0))) true none,
  .op (.R (.ld 2 true (.st 0))) true none,
  .op (.F (.al 95 [(.str 0 0), .nils])) false (some r6),
  .op (.W (.st 2 (.sl r6) (.st 0))) false none])
 (.seq (.reg [.el,
  .op (.R (.ld 2 true (.sl r6))) true none,
  .op (.C (.cv (.sl r7) [(.st 0)])) true none,
  .op (.P (.mv (.st 0))) false (some r1)])
 (.seq (.reg [.el,
  .op (.P (.cmi .neq (.sl r1) (.k (.int .i64 0)))) false (some r8)])
 (.cond (.sl r8) (.seq (.reg [.el,
  .op (.P (.mv (.sl r1))) false (some r9)])
 (.ret))
 (.skip))))))
 (.reg [.op (.P (.ar .add (.sl r0) (.k (.int .i64 1)))) true none,
  .op (.P (.mv (.st 0))) false (some r0)])))))))
 (.seq (.reg [.op (.P (.mv (.k (.int .i64 0)))) false (some r9)])
 (.ret))))
  [.sl (.sl r9)]

def m69 : SlotMap := [(1, r0), (0, r1), (3, r2), (8, r3), (2, r4)]
def c69 : VFn :=
 VFn.mk [some r1] (.seq (.reg [.op (.F (.bx 95 (.sl r1))) false (some r0),
  .op (.P (.mv (.k (.int .i64 0)))) false (some r4)])
 (.seq (.block 0 (.seq (.reg [.op (.P (.fa 0 (.sl r0))) true none,
  .op (.R (.ld 1 false (.st 0))) true none,
  .op (.C (.cf 85 [(.st 0)])) true none,
  .op (.P (.no (.st 0))) true none,
  .op (.P (.mv (.st 0))) false (some r2)])
 (.cond (.sl r2) (.seq (.reg [.op (.P (.mv (.k (.int .i64 3)))) false (some r4)])
 (.ret))
 (.seq (.reg [.op (.P (.fa 1 (.sl r0))) true none,
  .op (.R (.ld 1 false (.st 0))) true none,
  .op (.P (.ln 1 (.st 0))) true none,
  .op (.P (.cmi .gtr (.st 0) (.k (.int .i64 12)))) true none,
  .op (.P (.mv (.st 0))) false (some r3)])
 (.cond (.sl r3) (.seq (.reg [.op (.P (.mv (.k (.int .i64 2)))) false (some r4)])
 (.ret))
 (.skip))))))
 (.seq (.reg [.op (.P (.fa 1 (.sl r0))) true none,
  .op (.R (.ld 1 false (.st 0))) true none,
  .op (.C (.cf 72 [(.st 0), (.k (.fn 113 [] []))])) true none,
  .op (.P (.mv (.st 0))) false (some r4)])
 (.ret))))
  [.sl (.sl r4)]

def m70 : SlotMap := [(10, r0), (7, r1), (0, r2), (9, r3), (11, r4), (8, r5), (6, r6), (1, r7), (18, r8), (4, r9)]
def c70 : VFn :=
 VFn.mk [some r2, some r7] (.seq (.reg [.op (.P (.mv (.k (.int .i64 0)))) false (some r9)])
 (.seq (.seq (.reg [.op (.P (.mv (.sl r2))) false (some r5),
  .op (.P (.ln 1 (.sl r5))) false (some r3),
  .op (.P (.mv (.k (.int .i64 0)))) false (some r0)])
 (.block 0 (.loop (.seq (.reg [.op (.P (.cmi .lss (.sl r0) (.sl r3))) false (some r4)])
 (.seq (.cond (.sl r4) (.skip)
 (.exit 0))
 (.seq (.block 1 (.seq (.reg [.op (.P (.ia 3 (.sl r5) (.sl r0))) true none,
  .op (.R (.ld 3 true (.st 0))) true none,
  .op (.F (.al 106 [(.str 0 0), (.str 0 0), .nils])) false (some r6),
  .op (.W (.st 3 (.sl r6) (.st 0))) false none])
 (.seq (.reg [.el,
  .op (.R (.ld 3 true (.sl r6))) true none,
  .op (.C (.cv (.sl r7) [(.st 0)])) true none,
  .op (.P (.mv (.st 0))) false (some r1)])
 (.seq (.reg [.el,
  .op (.P (.cmi .neq (.sl r1) (.k (.int .i64 0)))) false (some r8)])
 (.cond (.sl r8) (.seq (.reg [.el,
  .op (.P (.mv (.sl r1))) false (some r9)])
 (.ret))
 (.skip))))))
 (.reg [.op (.P (.ar .add (.sl r0) (.k (.int .i64 1)))) true none,
  .op (.P (.mv (.st 0))) false (some r0)])))))))
 (.seq (.reg [.op (.P (.mv (.k (.int .i64 0)))) false (some r9)])
 (.ret))))
  [.sl (.sl r9)]

def m71 : SlotMap := [(1, r0), (0, r1), (3, r2), (22, r3), (37, r4), (2, r5)]
def c71 : VFn :=
 VFn.mk [some r1] (.seq (.reg [.op (.F (.bx 106 (.sl r1))) false (some r0),
  .op (.P (.mv (.k (.int .i64 0)))) false (some r5)])
 (.seq (.reg [.op (.P (.fa 1 (.sl r0))) true none,
  .op (.R (.ld 1 false (.st 0))) true none,
  .op (.P (.cms .eql (.st 0) (.k (.str 3 6909556)))) true none,
  .el,
  .op (.G (.st 0) false (.P (.fa 1 (.sl r0)))) true none,
  .op (.G (.st 1) false (.R (.ld 1 false (.st 0)))) true none,
  .op (.G (.st 2) false (.P (.cms .eql (.st 0) (.k (.str 4 1651470188))))) true none,
  .op (.P (.pick (.st 3) (.k (.bool true)) (.st 0))) true none,
  .el,
  .op (.G (.st 0) false (.P (.fa 1 (.sl r0)))) true none,
  .op (.G (.st 1) false (.R (.ld 1 false (.st 0)))) true none,
  .op (.G (.st 2) false (.P (.cms .eql (.st 0) (.k (.str 4 1952807028))))) true none,
  .op (.P (.pick (.st 3) (.k (.bool true)) (.st 0))) true none,
  .el,
  .op (.G (.st 0) false (.P (.fa 1 (.sl r0)))) true none,
  .op (.G (.st 1) false (.R (.ld 1 false (.st 0)))) true none,
  .op (.G (.st 2) false (.P (.cms .eql (.st 0) (.k (.str 4 1970170228))))) true none,
  .op (.P (.pick (.st 3) (.k (.bool true)) (.st 0))) true none,
  .op (.P (.mv (.st 0))) false (some r2)])
 (.seq (.block 0 (.seq (.reg [.op (.P (.fa 0 (.sl r0))) true none,
  .op (.R (.ld 1 false (.st 0))) true none,
  .op (.C (.cf 85 [(.st 0)])) true none,
  .op (.P (.no (.st 0))) true none,
  .el,
  .op (.G (.st 0) false (.P (.fa 1 (.sl r0)))) true none,
  .op (.G (.st 1) false (.R (.ld 1 false (.st 0)))) true none,
  .op (.G (.st 2) false (.C (.cf 85 [(.st 0)]))) true none,
  .op (.G (.st 3) false (.P (.no (.st 0)))) true none,
  .op (.G (.st 4) false (.P (.mv (.st 0)))) true none,
  .op (.G (.st 0) true (.P (.mv (.sl r2)))) true none,
  .op (.G (.st 1) true (.P (.no (.st 0)))) true none,
  .op (.G (.st 7) false (.P (.pick (.st 2) (.st 0) (.k (.bool false))))) true none,
  .op (.P (.pick (.st 8) (.k (.bool true)) (.st 0))) true none,
  .op (.P (.mv (.st 0))) false (some r3)])
 (.cond (.sl r3) (.seq (.reg [.op (.P (.mv (.k (.int .i64 3)))) false (some r5)])
 (.ret))
 (.seq (.reg [.op (.P (.fa 2 (.sl r0))) true none,
  .op (.R (.ld 1 false (.st 0))) true none,
  .op (.P (.ln 1 (.st 0))) true none,
  .op (.P (.cmi .gtr (.st 0) (.k (.int .i64 12)))) true none,
  .op (.P (.mv (.st 0))) false (some r4)])
 (.cond (.sl r4) (.seq (.reg [.op (.P (.mv (.k (.int .i64 2)))) false (some r5)])
 (.ret))
 (.skip))))))
 (.seq (.reg [.op (.P (.fa 2 (.sl r0))) true none,
  .op (.R (.ld 1 false (.st 0))) true none,
  .op (.C (.cf 72 [(.st 0), (.k (.fn 73 [] []))])) true none,
  .op (.P (.mv (.st 0))) false (some r5)])
 (.ret)))))
  [.sl (.sl r5)]

def m72 : SlotMap := [(10, r0), (7, r1), (0, r2), (9, r3), (11, r4), (8, r5), (6, r6), (1, r7), (18, r8), (4, r9)]
def c72 : VFn :=
 VFn.mk [some r2, some r7] (.seq (.reg [.op (.P (.mv (.k (.int .i64 0)))) false (some r9)])
 (.seq (.seq (.reg [.op (.P (.mv (.sl r2))) false (some r5),
  .op (.P (.ln 1 (.sl r5))) false (some r3),
  .op (.P (.mv (.k (.int .i64 0)))) false (some r0)])
 (.block 0 (.loop (.seq (.reg [.op (.P (.cmi .lss (.sl r0) (.sl r3))) false (some r4)])
 (.seq (.cond (.sl r4) (.skip)
 (.exit 0))
 (.seq (.block 1 (.seq (.reg [.op (.P (.ia 15 (.sl r5) (.sl r0))) true none,
  .op (.R (.ld 15 true (.st 0))) true none,
  .op (.F (.al 103 [(.str 0 0), .nils, .nils, .nils, (.int .i64 0), (.str 0 0), .nils, (.int .i64 0), (.int .i64 0), (.str 0 0), .nils, .nils, .nils, .nils, (.int .i64 0)])) false (some r6),
  .op (.W (.st 15 (.sl r6) (.st 0))) false none])
 (.seq (.reg [.el,
  .op (.R (.ld 15 true (.sl r6))) true none,
  .op (.C (.cv (.sl r7) [(.st 0)])) true none,
  .op (.P (.mv (.st 0))) false (some r1)])
 (.seq (.reg [.el,
  .op (.P (.cmi .neq (.sl r1) (.k (.int .i64 0)))) false (some r8)])
 (.cond (.sl r8) (.seq (.reg [.el,
  .op (.P (.mv (.sl r1))) false (some r9)])
 (.ret))
 (.skip))))))
 (.reg [.op (.P (.ar .add (.sl r0) (.k (.int .i64 1)))) true none,
  .op (.P (.mv (.st 0))) false (some r0)])))))))
 (.seq (.reg [.op (.P (.mv (.k (.int .i64 0)))) false (some r9)])
 (.ret))))
  [.sl (.sl r9)]

def m73 : SlotMap := [(1, r0), (3, r1), (0, r2), (7, r3), (2, r4)]
def c73 : VFn :=
 VFn.mk [some r2] (.seq (.reg [.op (.F (.bx 103 (.sl r2))) false (some r0),
  .op (.P (.mv (.k (.int .i64 0)))) false (some r4)])
 (.seq (.seq (.reg [.op (.R (.ld 15 true (.sl r0))) true none,
  .op (.C (.cf 114 [(.st 0)])) true none,
  .op (.P (.mv (.st 0))) false (some r1)])
 (.seq (.reg [.el,
  .op (.P (.cmi .neq (.sl r1) (.k (.int .i64 0)))) false (some r3)])
 (.cond (.sl r3) (.seq (.reg [.el,
  .op (.P (.mv (.sl r1))) false (some r4)])
 (.ret))
 (.skip))))
 (.seq (.reg [.op (.P (.fa 7 (.sl r0))) true none,
  .op (.R (.ld 8 true (.st 0))) true none,
  .op (.C (.cf 115 [(.st 0), (.k (.bool false))])) true none,
  .op (.P (.mv (.st 0))) false (some r4)])
 (.ret))))
  [.sl (.sl r4)]

def m74 : SlotMap := [(10, r0), (7, r1), (0, r2), (9, r3), (11, r4), (8, r5), (6, r6), (1, r7), (18, r8), (4, r9)]
def c74 : VFn :=
 VFn.mk [some r2, some r7] (.seq (.reg [.op (.P (.mv (.k (.int .i64 0)))) false (some r9)])
 (.seq (.seq (.reg [.op (.P (.mv (.sl r2))) false (some r5),
  .op (.P (.ln 1 (.sl r5))) false (some r3),
  .op (.P (.mv (.k (.int .i64 0)))) false (some r0)])
 (.block 0 (.loop (.seq (.reg [.op (.P (.cmi .lss (.sl r0) (.sl r3))) false (some r4)])
 (.seq (.cond (.sl r4) (.skip)
 (.exit 0))
 (.seq (.block 1 (.seq (.reg [.op (.P (.ia 14 (.sl r5) (.sl r0))) true none,
  .op (.R (.ld 14 true (.st 0))) true none,
  .op (.F (.al 115 [(.str 0 0), .nils, .nils, (.int .i64 0), (.str 0 0), .nils, (.int .i64 0), (.int .i64 0), (.str 0 0), .nils, .nils, .nils, .nils, (.int .i64 0)])) false (some r6),
  .op (.W (.st 14 (.sl r6) (.st 0))) false none])
 (.seq (.reg [.el,
  .op (.R (.ld 14 true (.sl r6))) true none,
  .op (.C (.cv (.sl r7) [(.st 0)])) true none,
  .op (.P (.mv (.st 0))) false (some r1)])
 (.seq (.reg [.el,
  .op (.P (.cmi .neq (.sl r1) (.k (.int .i64 0)))) false (some r8)])
 (.cond (.sl r8) (.seq (.reg [.el,
  .op (.P (.mv (.sl r1))) false (some r9)])
 (.ret))
 (.skip))))))
 (.reg [.op (.P (.ar .add (.sl r0) (.k (.int .i64 1)))) true none,
  .op (.P (.mv (.st 0))) false (some r0)])))))))
 (.seq (.reg [.op (.P (.mv (.k (.int .i64 0)))) false (some r9)])
 (.ret))))
  [.sl (.sl r9)]

def m75 : SlotMap := [(1, r0), (3, r1), (0, r2), (16, r3), (29, r4), (2, r5)]
def c75 : VFn :=
 VFn.mk [some r2] (.seq (.reg [.op (.F (.bx 115 (.sl r2))) false (some r0),
  .op (.P (.mv (.k (.int .i64 0)))) false (some r5)])
 (.seq (.seq (.reg [.op (.P (.fa 0 (.sl r0))) true none,
  .op (.R (.ld 1 false (.st 0))) true none,
  .op (.C (.cf 85 [(.st 0)])) true none,
  .op (.P (.no (.st 0))) true none,
  .el,
  .op (.G (.st 0) false (.P (.fa 1 (.sl r0)))) true none,
  .op (.G (.st 1) false (.R (.ld 1 false (.st 0)))) true none,
  .op (.G (.st 2) false (.P (.ln 1 (.st 0)))) true none,
  .op (.G (.st 3) false (.P (.fa 2 (.sl r0)))) true none,
  .op (.G (.st 4) false (.R (.ld 1 false (.st 0)))) true none,
  .op (.G (.st 5) false (.P (.ln 1 (.st 0)))) true none,
  .op (.G (.st 6) false (.P (.cmi .neq (.st 3) (.st 0)))) true none,
  .op (.P (.pick (.st 7) (.k (.bool true)) (.st 0))) false (some r3)])
 (.cond (.sl r3) (.seq (.reg [.op (.P (.mv (.k (.int .i64 3)))) false (some r5)])
 (.ret))
 (.skip)))
 (.seq (.seq (.dreg [(.q, .op (.P (.fa 1 (.sl r0))) true none),
  (.r 0 0, .op (.R (.ld 1 false (.st 0))) true none),
  (.h [], .op (.C (.cf 109 [(.st 0)])) true none),
  (.q, .op (.P (.fa 2 (.sl r0))) true none),
  (.r 0 1, .op (.R (.ld 1 false (.st 0))) true none),
  (.h [], .op (.C (.cf 112 [(.st 0)])) true none),
  (.q, .op (.P (.fa 3 (.sl r0))) true none),
  (.r 0 2, .op (.R (.ld 3 true (.st 0))) true none),
  (.h [], .op (.C (.cf 116 [(.st 0), (.k (.int .i64 1))])) true none),
  (.f, .op (.F (.bsl 59 1 3 [(.int .i64 0), (.int .i64 0), (.int .i64 0)] [(0, 1, (.st 6)), (1, 1, (.st 3)), (2, 1, (.st 0))])) true none),
  (.h [9], .op (.C (.cf 108 [(.st 0)])) true none),
  (.q, .op (.P (.mv (.st 0))) false (some r1))])
 (.seq (.reg [.el,
  .op (.P (.cmi .neq (.sl r1) (.k (.int .i64 0)))) false (some r4)])
 (.cond (.sl r4) (.seq (.reg [.el,
  .op (.P (.mv (.sl r1))) false (some r5)])
 (.ret))
 (.skip))))
 (.seq (.reg [.op (.P (.fa 6 (.sl r0))) true none,
  .op (.R (.ld 8 true (.st 0))) true none,
  .op (.C (.cf 115 [(.st 0), (.k (.bool true))])) true none,
  .op (.P (.mv (.st 0))) false (some r5)])
 (.ret)))))
  [.sl (.sl r5)]

def m76 : SlotMap := [(3, r0), (0, r1), (4, r2), (25, r3), (34, r4), (40, r5), (123, r6), (1, r7), (13, r8), (16, r9), (24, r10), (26, r11), (23, r12), (6, r13), (48, r14), (67, r15), (85, r16), (102, r17), (39, r18), (41, r19), (38, r20), (8, r21), (119, r22), (122, r23), (124, r24), (121, r25), (10, r26)]
def c76 : VFn :=
 VFn.mk [some r1, some r7] (.seq (.reg [.op (.F (.bx 101 (.sl r7))) false (some r0)])
 (.seq (.reg [.op (.R (.ld 8 true (.sl r0))) true none,
  .op (.C (.cf 45 [(.st 0)])) true none,
  .op (.P (.mv (.st 0))) false (some r2)])
 (.seq (.block 0 (.seq (.reg [.el,
  .op (.P (.cmi .lss (.sl r2) (.k (.int .i64 0)))) true none,
  .op (.P (.mv (.st 0))) false (some r8)])
 (.cond (.sl r8) (.ret)
 (.seq (.reg [.op (.P (.fa 5 (.sl r0))) true none,
  .op (.R (.ld 1 false (.st 0))) true none,
  .op (.P (.ln 1 (.st 0))) true none,
  .el,
  .op (.P (.cmi .lss (.st 0) (.sl r2))) true none,
  .op (.P (.mv (.st 0))) false (some r9)])
 (.cond (.sl r9) (.seq (.seq (.reg [.op (.P (.fa 5 (.sl r0))) true none,
  .op (.R (.ld 1 false (.st 0))) false (some r12),
  .op (.P (.ln 1 (.sl r12))) false (some r10),
  .op (.P (.mv (.k (.int .i64 0)))) false (some r3)])
 (.block 1 (.loop (.seq (.reg [.op (.P (.cmi .lss (.sl r3) (.sl r10))) false (some r11)])
 (.seq (.cond (.sl r11) (.skip)
 (.exit 1))
 (.seq (.block 2 (.seq (.reg [.op (.P (.ia 8 (.sl r12) (.sl r3))) true none,
  .op (.R (.ld 8 true (.st 0))) true none,
  .op (.F (.al 101 [(.int .i64 0), (.int .i64 0), (.str 0 0), .nils, .nils, .nils, .nils, (.int .i64 0)])) false (some r13),
  .op (.W (.st 8 (.sl r13) (.st 0))) false none])
 (.reg [.el,
  .op (.R (.ld 8 true (.sl r13))) true none,
  .op (.C (.cf 76 [(.sl r1), (.st 0)])) false none])))
 (.reg [.op (.P (.ar .add (.sl r3) (.k (.int .i64 1)))) true none,
  .op (.P (.mv (.st 0))) false (some r3)])))))))
 (.ret))
 (.skip))))))
 (.seq (.seq (.reg [.op (.P (.fa 0 (.sl r0))) true none,
  .op (.R (.ld 1 false (.st 0))) false (some r4)])
 (.block 3 (.seq (.reg [.op (.P (.cmi .eql (.sl r4) (.k (.int .i64 5)))) true none,
  .op (.P (.mv (.st 0))) false (some r14)])
 (.cond (.sl r14) (.seq (.dreg [(.q, .op (.P (.mv (.sl r1))) true none),
  (.q, .op (.P (.nn (.st 0))) true none),
  (.q, .op (.P (.fa 1 (.st 0))) true none),
  (.r 0 0, .op (.R (.ld 1 false (.st 0))) true none),
  (.q, .op (.P (.fa 2 (.sl r0))) true none),
  (.r 0 0, .op (.R (.ld 1 false (.st 0))) true none),
  (.r 0 0, .op (.R (.lk 1 false (.int .i64 0) (.st 2) (.st 0))) true none),
  (.q, .op (.P (.cmi .eql (.st 0) (.k (.int .i64 0)))) true none),
  (.q, .op (.P (.mv (.st 0))) true none),
  (.q, .op (.G (.st 0) true (.P (.mv (.sl r1)))) true none),
  (.q, .op (.G (.st 1) true (.P (.nn (.st 0)))) true none),
  (.q, .op (.G (.st 2) true (.P (.fa 0 (.st 0)))) true none),
  (.r 0 0, .op (.G (.st 3) true (.R (.ld 1 false (.st 0)))) true none),
  (.q, .op (.G (.st 4) true (.P (.fa 2 (.sl r0)))) true none),
  (.r 0 0, .op (.G (.st 5) true (.R (.ld 1 false (.st 0)))) true none),
  (.r 0 0, .op (.G (.st 6) true (.R (.lk 1 false (.bool false) (.st 2) (.st 0)))) true none),
  (.q, .op (.G (.st 7) true (.P (.no (.st 0)))) true none),
  (.q, .op (.P (.pick (.st 8) (.st 0) (.k (.bool false)))) false (some r15))])
 (.cond (.sl r15) (.seq (.dreg [(.q, .op (.P (.mv (.sl r1))) true none),
  (.q, .op (.P (.nn (.st 0))) true none),
  (.q, .op (.P (.fa 0 (.st 0))) true none),
  (.r 0 0, .op (.R (.ld 1 false (.st 0))) true none),
  (.q, .op (.P (.fa 2 (.sl r0))) true none),
  (.r 0 0, .op (.R (.ld 1 false (.st 0))) true none),
  (.h [], .op (.W (.mu 1 (.st 2) (.st 0) (.k (.bool true)))) false none)])
 (.dreg [(.q, .op (.P (.mv (.sl r1))) true none),
  (.q, .op (.P (.mv (.sl r1))) true none),
  (.q, .op (.P (.nn (.st 0))) true none),
  (.q, .op (.P (.fa 2 (.st 0))) true none),
  (.r 0 0, .op (.R (.ld 1 false (.st 0))) true none),
  (.q, .op (.P (.fa 2 (.sl r0))) true none),
  (.r 0 0, .op (.R (.ld 1 false (.st 0))) true none),
  (.f, .op (.F (.bsl 9 1 1 [(.str 0 0)] [(0, 1, (.st 0))])) true none),
  (.h [7], .op (.W (.app 9 1 (.st 3) (.st 0))) true none),
  (.q, .op (.P (.nn (.st 8))) true none),
  (.q, .op (.P (.fa 2 (.st 0))) true none),
  (.h [7], .op (.W (.st 1 (.st 0) (.st 2))) false none)]))
 (.skip)))
 (.seq (.reg [.op (.P (.cmi .eql (.sl r4) (.k (.int .i64 6)))) true none,
  .op (.P (.mv (.st 0))) false (some r16)])
 (.cond (.sl r16) (.seq (.reg [.el,
  .op (.P (.fa 5 (.sl r0))) true none,
  .op (.R (.ld 1 false (.st 0))) true none,
  .op (.P (.ia 8 (.st 0) (.k (.int .i64 0)))) true none,
  .op (.R (.ld 8 true (.st 0))) true none,
  .op (.C (.cf 76 [(.sl r1), (.st 0)])) false none])
 (.dreg [(.q, .op (.P (.mv (.sl r1))) true none),
  (.q, .op (.P (.fa 2 (.sl r0))) true none),
  (.r 0 0, .op (.R (.ld 1 false (.st 0))) true none),
  (.f, .op (.F (.bsl 9 1 1 [(.str 0 0)] [(0, 1, (.st 0))])) true none),
  (.q, .op (.P (.fa 5 (.sl r0))) true none),
  (.r 0 0, .op (.R (.ld 1 false (.st 0))) true none),
  (.q, .op (.P (.ia 8 (.st 0) (.k (.int .i64 1)))) true none),
  (.r 0 0, .op (.R (.ld 8 true (.st 0))) true none),
  (.h [3], .op (.C (.cf 117 [(.st 7), (.st 4), (.st 0)])) false none)]))
 (.seq (.reg [.op (.P (.cmi .eql (.sl r4) (.k (.int .i64 10)))) true none,
  .op (.P (.mv (.st 0))) false (some r17)])
 (.cond (.sl r17) (.dreg [(.q, .op (.P (.mv (.sl r1))) true none),
  (.q, .op (.P (.fa 3 (.sl r0))) true none),
  (.r 0 0, .op (.R (.ld 1 false (.st 0))) true none),
  (.q, .op (.P (.fa 5 (.sl r0))) true none),
  (.r 0 0, .op (.R (.ld 1 false (.st 0))) true none),
  (.q, .op (.P (.ia 8 (.st 0) (.k (.int .i64 0)))) true none),
  (.r 0 0, .op (.R (.ld 8 true (.st 0))) true none),
  (.h [], .op (.C (.cf 117 [(.st 6), (.st 4), (.st 0)])) false none)])
 (.seq (.reg [.op (.P (.fa 5 (.sl r0))) true none,
  .op (.R (.ld 1 false (.st 0))) true none,
  .el,
  .op (.R (.sll 101 8 (.st 0) none (some (.sl r2)))) false (some r20),
  .op (.P (.ln 1 (.sl r20))) false (some r18),
  .op (.P (.mv (.k (.int .i64 0)))) false (some r5)])
 (.block 4 (.loop (.seq (.reg [.op (.P (.cmi .lss (.sl r5) (.sl r18))) false (some r19)])
 (.seq (.cond (.sl r19) (.skip)
 (.exit 4))
 (.seq (.block 5 (.seq (.reg [.op (.P (.ia 8 (.sl r20) (.sl r5))) true none,
  .op (.R (.ld 8 true (.st 0))) true none,
  .op (.F (.al 101 [(.int .i64 0), (.int .i64 0), (.str 0 0), .nils, .nils, .nils, .nils, (.int .i64 0)])) false (some r21),
  .op (.W (.st 8 (.sl r21) (.st 0))) false none])
 (.reg [.el,
  .op (.R (.ld 8 true (.sl r21))) true none,
  .op (.C (.cf 76 [(.sl r1), (.st 0)])) false none])))
 (.reg [.op (.P (.ar .add (.sl r5) (.k (.int .i64 1)))) true none,
  .op (.P (.mv (.st 0))) false (some r5)])))))))))))))))
 (.seq (.reg [.op (.P (.fa 0 (.sl r0))) true none,
  .op (.R (.ld 1 false (.st 0))) true none,
  .op (.P (.cmi .eql (.st 0) (.k (.int .i64 13)))) true none,
  .el,
  .op (.G (.st 0) false (.P (.fa 0 (.sl r0)))) true none,
  .op (.G (.st 1) false (.R (.ld 1 false (.st 0)))) true none,
  .op (.G (.st 2) false (.P (.cmi .eql (.st 0) (.k (.int .i64 18))))) true none,
  .op (.P (.pick (.st 3) (.k (.bool true)) (.st 0))) false (some r22)])
 (.cond (.sl r22) (.seq (.reg [.op (.P (.fa 6 (.sl r0))) true none,
  .op (.R (.ld 1 false (.st 0))) false (some r25),
  .op (.P (.ln 1 (.sl r25))) false (some r23),
  .op (.P (.mv (.k (.int .i64 0)))) false (some r6)])
 (.block 6 (.loop (.seq (.reg [.op (.P (.cmi .lss (.sl r6) (.sl r23))) false (some r24)])
 (.seq (.cond (.sl r24) (.skip)
 (.exit 6))
 (.seq (.block 7 (.seq (.reg [.op (.P (.ia 12 (.sl r25) (.sl r6))) true none,
  .op (.R (.ld 12 true (.st 0))) true none,
  .op (.F (.al 166 [(.int .i64 0), (.int .i64 0), (.str 0 0), .nils, (.int .i64 0), (.int .i64 0), (.str 0 0), .nils, .nils, .nils, .nils, (.int .i64 0)])) false (some r26),
  .op (.W (.st 12 (.sl r26) (.st 0))) false none])
 (.dreg [(.q, .op (.P (.mv (.sl r1))) true none),
  (.q, .op (.P (.fa 0 (.sl r26))) true none),
  (.r 0 0, .op (.R (.ld 4 true (.st 0))) true none),
  (.h [], .op (.C (.cf 118 [(.st 0)])) true none),
  (.q, .op (.P (.fa 4 (.sl r26))) true none),
  (.r 0 1, .op (.R (.ld 8 true (.st 0))) true none),
  (.h [], .op (.C (.cf 117 [(.st 5), (.st 2), (.st 0)])) false none)])))
 (.reg [.op (.P (.ar .add (.sl r6) (.k (.int .i64 1)))) true none,
  .op (.P (.mv (.st 0))) false (some r6)])))))))
 (.skip)))))))
  []

end GoVm
