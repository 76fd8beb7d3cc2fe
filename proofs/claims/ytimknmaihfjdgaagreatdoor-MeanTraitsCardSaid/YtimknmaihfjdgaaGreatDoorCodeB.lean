/- The compiled form of the program's functions, part 2 of 3: definitions alone, printed by a program. -/
import Derived.Test.YtimknmaihfjdgaaGreatDoorCodeA
namespace GoVm
def m77 : SlotMap := [(10, r0), (5, r1), (0, r2), (9, r3), (11, r4), (8, r5), (7, r6), (1, r7), (4, r8)]
def c77 : VFn :=
 VFn.mk [some r2, some r7] (.seq (.reg [.op (.P (.mv (.k .nils))) false (some r8)])
 (.seq (.reg [.op (.P (.mv (.k .nils))) false (some r1)])
 (.seq (.seq (.reg [.op (.P (.mv (.sl r2))) false (some r5),
  .op (.P (.ln 1 (.sl r5))) false (some r3),
  .op (.P (.mv (.k (.int .i64 0)))) false (some r0)])
 (.block 0 (.loop (.seq (.reg [.op (.P (.cmi .lss (.sl r0) (.sl r3))) false (some r4)])
 (.seq (.cond (.sl r4) (.skip)
 (.exit 0))
 (.seq (.block 1 (.seq (.reg [.op (.P (.ia 4 (.sl r5) (.sl r0))) true none,
  .op (.R (.ld 4 true (.st 0))) true none,
  .op (.F (.al 164 [(.int .i64 0), (.int .i64 0), (.str 0 0), .nils])) false (some r6),
  .op (.W (.st 4 (.sl r6) (.st 0))) false none])
 (.reg [.op (.P (.mv (.sl r1))) true none,
  .el,
  .op (.R (.ld 4 true (.sl r6))) true none,
  .op (.C (.cv (.sl r7) [(.st 0)])) true none,
  .op (.F (.bsl 164 4 1 [(.int .i64 0), (.int .i64 0), (.str 0 0), .nils] [(0, 4, (.st 0))])) true none,
  .op (.W (.app 164 4 (.st 3) (.st 0))) true none,
  .op (.P (.mv (.st 0))) false (some r1)])))
 (.reg [.op (.P (.ar .add (.sl r0) (.k (.int .i64 1)))) true none,
  .op (.P (.mv (.st 0))) false (some r0)])))))))
 (.seq (.reg [.el,
  .op (.P (.mv (.sl r1))) false (some r8)])
 (.ret)))))
  [.sl (.sl r8)]

def m78 : SlotMap := [(2, r0), (0, r1), (4, r2), (6, r3)]
def c78 : VFn :=
 VFn.mk [some r1] (.seq (.reg [.op (.P (.mv (.k (.int .i64 0)))) false (some r0)])
 (.seq (.seq (.reg [.el,
  .op (.W (.rgs (.sl r1))) false (some r2)])
 (.block 0 (.loop (.seq (.reg [.op (.W (.nxs (.sl r2))) true none,
  .op (.P (.ext 0 (.st 0))) false (some r3)])
 (.seq (.cond (.sl r3) (.skip)
 (.exit 0))
 (.block 1 (.reg [.op (.P (.mv (.sl r0))) true none,
  .op (.P (.ar .add (.st 0) (.k (.int .i64 1)))) true none,
  .op (.P (.mv (.st 0))) false (some r0)])))))))
 (.seq (.reg [.op (.P (.mv (.sl r0))) true none,
  .op (.P (.mv (.st 0))) false (some r0)])
 (.ret))))
  [.sl (.sl r0)]

def m80 : SlotMap := [(1, r0), (0, r1), (4, r2)]
def c80 : VFn :=
 VFn.mk [some r1, some r0] (.seq (.reg [.op (.P (.mv (.k (.int .i64 0)))) false (some r2)])
 (.seq (.reg [.el,
  .el,
  .op (.C (.cf 119 [(.sl r1), (.sl r0)])) true none,
  .op (.P (.mv (.st 0))) false (some r2)])
 (.ret)))
  [.sl (.sl r2)]

def m81 : SlotMap := [(1, r0), (25, r1), (2, r2), (0, r3), (21, r4), (3, r5), (24, r6), (26, r7), (23, r8), (8, r9), (34, r10), (6, r11)]
def c81 : VFn :=
 VFn.mk [some r3, some r0, some r2] (.seq (.reg [.op (.F (.bx 139 (.sl r3))) false (some r5),
  .op (.P (.mv (.k (.bool false)))) false (some r11)])
 (.seq (.reg [.el,
  .op (.P (.nn (.sl r0))) true none,
  .op (.R (.ld 1 false (.st 0))) true none,
  .op (.P (.ar .sub (.st 0) (.k (.int .i64 1)))) true none,
  .op (.P (.nn (.sl r0))) true none,
  .op (.W (.st 1 (.st 0) (.st 1))) false none])
 (.seq (.seq (.reg [.el,
  .op (.P (.nn (.sl r0))) true none,
  .op (.R (.ld 1 false (.st 0))) true none,
  .op (.P (.cmi .lss (.st 0) (.k (.int .i64 0)))) true none,
  .el,
  .op (.G (.st 0) false (.P (.mv (.sl r2)))) true none,
  .op (.G (.st 1) false (.P (.cmi .gtr (.st 0) (.k (.int .i64 40))))) true none,
  .op (.P (.pick (.st 2) (.k (.bool true)) (.st 0))) false (some r4)])
 (.cond (.sl r4) (.seq (.reg [.op (.P (.mv (.k (.bool false)))) false (some r11)])
 (.ret))
 (.skip)))
 (.seq (.seq (.reg [.op (.R (.ld 5 true (.sl r5))) true none,
  .op (.C (.cf 120 [(.st 0)])) false (some r8),
  .op (.P (.ln 1 (.sl r8))) false (some r6),
  .op (.P (.mv (.k (.int .i64 0)))) false (some r1)])
 (.block 0 (.loop (.seq (.reg [.op (.P (.cmi .lss (.sl r1) (.sl r6))) false (some r7)])
 (.seq (.cond (.sl r7) (.skip)
 (.exit 0))
 (.seq (.block 1 (.seq (.reg [.op (.P (.ia 5 (.sl r8) (.sl r1))) true none,
  .op (.R (.ld 5 true (.st 0))) true none,
  .op (.F (.al 139 [(.int .i64 0), (.int .i64 0), (.str 0 0), .nils, .nilp])) false (some r9),
  .op (.W (.st 5 (.sl r9) (.st 0))) false none])
 (.seq (.reg [.op (.R (.ld 5 true (.sl r9))) true none,
  .el,
  .el,
  .op (.P (.ar .add (.sl r2) (.k (.int .i64 1)))) true none,
  .op (.C (.cf 81 [(.st 1), (.sl r0), (.st 0)])) true none,
  .op (.P (.no (.st 0))) false (some r10)])
 (.cond (.sl r10) (.seq (.reg [.op (.P (.mv (.k (.bool false)))) false (some r11)])
 (.ret))
 (.skip)))))
 (.reg [.op (.P (.ar .add (.sl r1) (.k (.int .i64 1)))) true none,
  .op (.P (.mv (.st 0))) false (some r1)])))))))
 (.seq (.reg [.op (.P (.mv (.k (.bool true)))) false (some r11)])
 (.ret))))))
  [.sl (.sl r11)]

def m82 : SlotMap := [(0, r0), (2, r1)]
def c82 : VFn :=
 VFn.mk [some r0] (.seq (.reg [.op (.P (.mv (.k (.bool false)))) false (some r1)])
 (.seq (.reg [.el,
  .op (.C (.cf 105 [(.sl r0)])) true none,
  .el,
  .op (.G (.st 0) false (.P (.mv (.sl r0)))) true none,
  .op (.G (.st 1) false (.C (.cf 121 [(.st 0)]))) true none,
  .op (.P (.pick (.st 2) (.k (.bool true)) (.st 0))) true none,
  .op (.P (.mv (.st 0))) false (some r1)])
 (.ret)))
  [.sl (.sl r1)]

def m83 : SlotMap := [(0, r0), (2, r1)]
def c83 : VFn :=
 VFn.mk [some r0] (.seq (.reg [.op (.P (.mv (.k (.bool false)))) false (some r1)])
 (.seq (.reg [.el,
  .op (.C (.cf 82 [(.sl r0)])) true none,
  .el,
  .op (.G (.st 0) false (.P (.mv (.sl r0)))) true none,
  .op (.G (.st 1) false (.C (.cf 86 [(.st 0)]))) true none,
  .op (.P (.pick (.st 2) (.k (.bool true)) (.st 0))) true none,
  .el,
  .op (.G (.st 0) false (.P (.mv (.sl r0)))) true none,
  .op (.G (.st 1) false (.P (.cmi .eql (.st 0) (.k (.int .u8 95))))) true none,
  .op (.P (.pick (.st 2) (.k (.bool true)) (.st 0))) true none,
  .op (.P (.mv (.st 0))) false (some r1)])
 (.ret)))
  [.sl (.sl r1)]

def m84 : SlotMap := [(0, r0), (2, r1)]
def c84 : VFn :=
 VFn.mk [some r0] (.seq (.reg [.op (.P (.mv (.k (.bool false)))) false (some r1)])
 (.seq (.reg [.el,
  .op (.P (.cms .neq (.sl r0) (.k (.str 0 0)))) true none,
  .el,
  .op (.G (.st 0) true (.C (.cf 123 []))) true none,
  .op (.G (.st 1) true (.P (.mv (.sl r0)))) true none,
  .op (.G (.st 2) true (.C (.cf 122 [(.st 1), (.st 0)]))) true none,
  .op (.P (.pick (.st 3) (.st 0) (.k (.bool false)))) true none,
  .op (.P (.mv (.st 0))) false (some r1)])
 (.ret)))
  [.sl (.sl r1)]

def m85 : SlotMap := [(0, r0), (2, r1)]
def c85 : VFn :=
 VFn.mk [some r0] (.seq (.reg [.op (.P (.mv (.k (.bool false)))) false (some r1)])
 (.seq (.reg [.el,
  .op (.C (.cf 104 [(.sl r0)])) true none,
  .el,
  .op (.G (.st 0) true (.P (.mv (.sl r0)))) true none,
  .op (.G (.st 1) true (.P (.idxs (.st 0) (.k (.int .i64 0))))) true none,
  .op (.G (.st 2) true (.C (.cf 121 [(.st 0)]))) true none,
  .op (.P (.pick (.st 3) (.st 0) (.k (.bool false)))) true none,
  .op (.P (.mv (.st 0))) false (some r1)])
 (.ret)))
  [.sl (.sl r1)]

def m86 : SlotMap := [(0, r0), (2, r1)]
def c86 : VFn :=
 VFn.mk [some r0] (.seq (.reg [.op (.P (.mv (.k (.bool false)))) false (some r1)])
 (.seq (.reg [.el,
  .op (.P (.cmi .geq (.sl r0) (.k (.int .u8 48)))) true none,
  .el,
  .op (.G (.st 0) true (.P (.mv (.sl r0)))) true none,
  .op (.G (.st 1) true (.P (.cmi .leq (.st 0) (.k (.int .u8 57))))) true none,
  .op (.P (.pick (.st 2) (.st 0) (.k (.bool false)))) true none,
  .op (.P (.mv (.st 0))) false (some r1)])
 (.ret)))
  [.sl (.sl r1)]

def m87 : SlotMap := [(5, r0), (6, r1), (4, r2), (0, r3), (8, r4), (12, r5), (18, r6), (23, r7), (28, r8), (31, r9), (47, r10), (7, r11), (2, r12), (3, r13)]
def c87 : VFn :=
 VFn.mk [some r3] (.seq (.reg [.op (.P (.mv (.k (.str 0 0)))) false (some r12),
  .op (.P (.mv (.k (.int .i64 0)))) false (some r13)])
 (.seq (.reg [.op (.P (.mv (.k .nils))) false (some r2)])
 (.seq (.seq (.reg [.op (.P (.mv (.k (.int .i64 1)))) false (some r0)])
 (.block 0 (.loop (.seq (.seq (.reg [.el,
  .el,
  .op (.P (.ln 0 (.sl r3))) true none,
  .op (.P (.cmi .lss (.sl r0) (.st 0))) false (some r5)])
 (.cond (.sl r5) (.skip)
 (.exit 0)))
 (.seq (.block 1 (.seq (.reg [.el,
  .el,
  .op (.P (.idxs (.sl r3) (.sl r0))) true none,
  .op (.P (.mv (.st 0))) false (some r1)])
 (.seq (.block 2 (.seq (.reg [.el,
  .op (.P (.cmi .eql (.sl r1) (.k (.int .u8 34)))) true none,
  .op (.P (.mv (.st 0))) false (some r6)])
 (.cond (.sl r6) (.seq (.seq (.reg [.el,
  .op (.P (.ln 1 (.sl r2))) true none,
  .op (.P (.cmi .gtr (.st 0) (.k (.int .i64 64)))) false (some r7)])
 (.cond (.sl r7) (.seq (.reg [.op (.P (.mv (.k (.str 0 0)))) false (some r12),
  .op (.P (.mv (.k (.int .i64 0)))) false (some r13)])
 (.ret))
 (.skip)))
 (.seq (.reg [.el,
  .op (.R (.b2s (.sl r2))) true none,
  .el,
  .op (.P (.ar .add (.sl r0) (.k (.int .i64 1)))) true none,
  .op (.P (.mv (.st 1))) false (some r12),
  .op (.P (.mv (.st 0))) false (some r13)])
 (.ret)))
 (.seq (.reg [.el,
  .op (.P (.cmi .lss (.sl r1) (.k (.int .u8 32)))) true none,
  .op (.P (.mv (.st 0))) false (some r8)])
 (.cond (.sl r8) (.seq (.reg [.op (.P (.mv (.k (.str 0 0)))) false (some r12),
  .op (.P (.mv (.k (.int .i64 0)))) false (some r13)])
 (.ret))
 (.seq (.reg [.el,
  .op (.P (.cmi .neq (.sl r1) (.k (.int .u8 92)))) true none,
  .op (.P (.mv (.st 0))) false (some r9)])
 (.cond (.sl r9) (.seq (.reg [.op (.P (.mv (.sl r2))) true none,
  .el,
  .op (.F (.bsl 5 1 1 [(.int .u8 0)] [(0, 1, (.sl r1))])) true none,
  .op (.W (.app 5 1 (.st 1) (.st 0))) true none,
  .op (.P (.mv (.st 0))) false (some r2)])
 (.exit 1))
 (.skip))))))))
 (.seq (.reg [.el,
  .el,
  .op (.P (.ar .add (.sl r0) (.k (.int .i64 1)))) true none,
  .op (.P (.sls (.sl r3) (some (.st 0)) none)) true none,
  .op (.C (.cf 124 [(.st 0)])) true none,
  .el,
  .op (.P (.ext 0 (.st 0))) true none,
  .op (.P (.ext 1 (.st 1))) true none,
  .op (.P (.mv (.st 1))) false (some r11),
  .op (.P (.mv (.st 0))) false (some r4)])
 (.seq (.seq (.reg [.el,
  .op (.P (.cmi .eql (.sl r4) (.k (.int .i64 0)))) false (some r10)])
 (.cond (.sl r10) (.seq (.reg [.op (.P (.mv (.k (.str 0 0)))) false (some r12),
  .op (.P (.mv (.k (.int .i64 0)))) false (some r13)])
 (.ret))
 (.skip)))
 (.seq (.reg [.op (.P (.mv (.sl r2))) true none,
  .el,
  .op (.F (.bsl 5 1 1 [(.int .u8 0)] [(0, 1, (.sl r11))])) true none,
  .op (.W (.app 5 1 (.st 1) (.st 0))) true none,
  .op (.P (.mv (.st 0))) false (some r2)])
 (.reg [.op (.P (.mv (.sl r0))) true none,
  .el,
  .op (.P (.ar .add (.st 0) (.sl r4))) true none,
  .op (.P (.mv (.st 0))) false (some r0)])))))))
 (.reg [.op (.P (.mv (.sl r0))) true none,
  .op (.P (.ar .add (.st 0) (.k (.int .i64 1)))) true none,
  .op (.P (.mv (.st 0))) false (some r0)]))))))
 (.seq (.reg [.op (.P (.mv (.k (.str 0 0)))) false (some r12),
  .op (.P (.mv (.k (.int .i64 0)))) false (some r13)])
 (.ret)))))
  [.sl (.sl r12), .sl (.sl r13)]

def m88 : SlotMap := [(0, r0), (3, r1), (4, r2), (2, r3)]
def c88 : VFn :=
 VFn.mk [some r0] (.seq (.reg [.op (.P (.mv (.k (.bool false)))) false (some r3)])
 (.seq (.seq (.reg [.op (.P (.mv (.sl r0))) false (some r1)])
 (.block 0 (.seq (.seq (.reg [.op (.P (.cms .eql (.sl r1) (.k (.str 2 15678)))) true none,
  .op (.P (.mv (.st 0))) false (some r2)])
 (.cond (.sl r2) (.skip)
 (.reg [.op (.P (.cms .eql (.sl r1) (.k (.str 2 11582)))) true none,
  .op (.P (.mv (.st 0))) false (some r2)])))
 (.cond (.sl r2) (.seq (.reg [.op (.P (.mv (.k (.bool true)))) false (some r3)])
 (.ret))
 (.skip)))))
 (.seq (.reg [.el,
  .op (.P (.ln 0 (.sl r0))) true none,
  .op (.P (.cmi .eql (.st 0) (.k (.int .i64 1)))) true none,
  .el,
  .op (.G (.st 0) true (.P (.mv (.sl r0)))) true none,
  .op (.G (.st 1) true (.C (.cf 125 [(.k (.str 19 895632501619211828340704680488893049670106207)), (.st 0)]))) true none,
  .op (.P (.pick (.st 2) (.st 0) (.k (.bool false)))) true none,
  .op (.P (.mv (.st 0))) false (some r3)])
 (.ret))))
  [.sl (.sl r3)]

def m89 : SlotMap := [(0, r0), (1, r1), (7, r2), (4, r3)]
def c89 : VFn :=
 VFn.mk [some r0, some r1] (.seq (.reg [.op (.P (.mv (.k (.bool false)))) false (some r3)])
 (.seq (.seq (.reg [.el,
  .el,
  .op (.C (.cf 126 [(.sl r0), (.sl r1)])) false (some r2)])
 (.cond (.sl r2) (.seq (.reg [.el,
  .op (.P (.nn (.sl r0))) true none,
  .op (.P (.fa 1 (.st 0))) true none,
  .op (.R (.ld 1 false (.st 0))) true none,
  .op (.P (.ar .add (.st 0) (.k (.int .i64 1)))) true none,
  .op (.P (.nn (.sl r0))) true none,
  .op (.P (.fa 1 (.st 0))) true none,
  .op (.W (.st 1 (.st 0) (.st 2))) false none])
 (.seq (.reg [.op (.P (.mv (.k (.bool true)))) false (some r3)])
 (.ret)))
 (.skip)))
 (.seq (.reg [.op (.P (.mv (.k (.bool false)))) false (some r3)])
 (.ret))))
  [.sl (.sl r3)]

def m91 : SlotMap := [(0, r0), (5, r1), (1, r2), (11, r3), (4, r4)]
def c91 : VFn :=
 VFn.mk [some r0, some r2] (.seq (.reg [.op (.P (.mv (.k (.str 0 0)))) false (some r4)])
 (.seq (.reg [.el,
  .op (.C (.cf 92 [(.sl r0)])) true none,
  .op (.F (.al 182 [(.int .i64 0), (.str 0 0), (.int .i64 0)])) false (some r1),
  .op (.W (.st 3 (.sl r1) (.st 0))) false none])
 (.seq (.seq (.reg [.op (.P (.fa 0 (.sl r1))) true none,
  .op (.R (.ld 1 false (.st 0))) true none,
  .el,
  .op (.P (.cmi .neq (.st 0) (.sl r2))) false (some r3)])
 (.cond (.sl r3) (.reg [.el,
  .op (.C (.cf 90 [(.sl r0)])) false none])
 (.skip)))
 (.seq (.reg [.el,
  .op (.P (.nn (.sl r0))) true none,
  .op (.P (.fa 1 (.st 0))) true none,
  .op (.R (.ld 1 false (.st 0))) true none,
  .op (.P (.ar .add (.st 0) (.k (.int .i64 1)))) true none,
  .op (.P (.nn (.sl r0))) true none,
  .op (.P (.fa 1 (.st 0))) true none,
  .op (.W (.st 1 (.st 0) (.st 2))) false none])
 (.seq (.reg [.op (.P (.fa 1 (.sl r1))) true none,
  .op (.R (.ld 1 false (.st 0))) true none,
  .op (.P (.mv (.st 0))) false (some r4)])
 (.ret))))))
  [.sl (.sl r4)]

def m92 : SlotMap := [(2, r0), (0, r1), (12, r2)]
def c92 : VFn :=
 VFn.mk [some r1] (.seq (.reg [.op (.F (.al 182 [(.int .i64 0), (.str 0 0), (.int .i64 0)])) false (some r0)])
 (.seq (.seq (.dreg [(.q, .op (.P (.mv (.sl r1))) true none),
  (.q, .op (.P (.nn (.st 0))) true none),
  (.q, .op (.P (.fa 1 (.st 0))) true none),
  (.r 0 0, .op (.R (.ld 1 false (.st 0))) true none),
  (.q, .op (.P (.mv (.sl r1))) true none),
  (.q, .op (.P (.nn (.st 0))) true none),
  (.q, .op (.P (.fa 0 (.st 0))) true none),
  (.r 0 0, .op (.R (.ld 1 false (.st 0))) true none),
  (.q, .op (.P (.ln 1 (.st 0))) true none),
  (.q, .op (.P (.cmi .lss (.st 5) (.st 0))) false (some r2))])
 (.cond (.sl r2) (.seq (.dreg [(.q, .op (.P (.mv (.sl r1))) true none),
  (.q, .op (.P (.nn (.st 0))) true none),
  (.q, .op (.P (.fa 0 (.st 0))) true none),
  (.r 0 0, .op (.R (.ld 1 false (.st 0))) true none),
  (.q, .op (.P (.mv (.sl r1))) true none),
  (.q, .op (.P (.nn (.st 0))) true none),
  (.q, .op (.P (.fa 1 (.st 0))) true none),
  (.r 0 0, .op (.R (.ld 1 false (.st 0))) true none),
  (.q, .op (.P (.ia 3 (.st 4) (.st 0))) true none),
  (.r 0 0, .op (.R (.ld 3 true (.st 0))) true none),
  (.h [], .op (.W (.st 3 (.sl r0) (.st 0))) false none)])
 (.ret))
 (.skip)))
 (.seq (.reg [.op (.P (.bld [(.int .i64 0), (.str 0 0), (.int .i64 0)] [])) true none,
  .op (.W (.st 3 (.sl r0) (.st 0))) false none])
 (.ret))))
  [.cell (.sl r0) 3 true]

def m93 : SlotMap := [(7, r0), (2, r1), (1, r2), (0, r3), (8, r4), (17, r5), (6, r6)]
def c93 : VFn :=
 VFn.mk [some r3, some r2, some r1] (.seq (.reg [.op (.P (.mv (.k (.int .i64 0)))) false (some r6),
  .op (.P (.mv (.k .nili))) false (some r0)])
 (.seq (.reg [.el,
  .el,
  .el,
  .op (.C (.cf 128 [(.sl r3), (.sl r2), (.sl r1)])) true none,
  .el,
  .op (.P (.ext 0 (.st 0))) true none,
  .op (.P (.ext 1 (.st 1))) true none,
  .op (.P (.mv (.st 1))) false (some r4),
  .op (.P (.mv (.st 0))) false (some r0)])
 (.seq (.seq (.reg [.el,
  .op (.P (.cmn 0 true (.sl r0))) false (some r5)])
 (.cond (.sl r5) (.seq (.reg [.el,
  .el,
  .el,
  .el,
  .op (.P (.mv (.sl r0))) true none,
  .op (.C (.cf 129 [(.k (.str 8 5792036435721285236)), (.sl r3), (.sl r2), (.sl r1), (.st 0)])) true none,
  .op (.P (.mv (.sl r4))) false (some r6),
  .op (.P (.mv (.st 0))) false (some r0)])
 (.ret))
 (.skip)))
 (.seq (.reg [.el,
  .op (.P (.mv (.sl r4))) false (some r6),
  .op (.P (.mv (.k .nili))) false (some r0)])
 (.ret)))))
  [.sl (.sl r6), .sl (.sl r0)]

def m94 : SlotMap := [(0, r0), (3, r1), (2, r2), (26, r3)]
def c94 : VFn :=
 VFn.mk [some r0] (.seq (.reg [.op (.F (.al 87 [(.str 0 0), .nils, .nils])) false (some r2)])
 (.seq (.reg [.el,
  .op (.C (.cf 130 [(.sl r0)])) true none,
  .el,
  .op (.C (.cf 131 [(.sl r0)])) true none,
  .op (.P (.bld [(.str 0 0), .nils, .nils] [(0, 1, (.st 1)), (1, 1, (.st 0))])) true none,
  .op (.F (.al 87 [(.str 0 0), .nils, .nils])) false (some r1),
  .op (.W (.st 3 (.sl r1) (.st 0))) false none])
 (.seq (.reg [.el,
  .op (.F (.bsl 9 1 1 [(.str 0 0)] [(0, 1, (.k (.str 1 61)))])) true none,
  .op (.C (.cf 58 [(.sl r0), (.st 0)])) false none])
 (.seq (.block 0 (.loop (.block 1 (.seq (.dreg [(.q, .op (.P (.fa 2 (.sl r1))) true none),
  (.r 0 2, .op (.R (.ld 1 false (.st 0))) true none),
  (.q, .op (.P (.mv (.sl r0))) true none),
  (.h [], .op (.C (.cf 95 [(.st 0)])) true none),
  (.q, .op (.P (.mv (.sl r0))) true none),
  (.q, .op (.P (.mv (.sl r0))) true none),
  (.q, .op (.P (.mkf 102 [(.st 0)] [])) true none),
  (.h [], .op (.C (.cf 132 [(.st 2), (.st 0)])) true none),
  (.q, .op (.P (.bld [(.str 0 0), .nils] [(0, 1, (.st 4)), (1, 1, (.st 0))])) true none),
  (.f, .op (.F (.bsl 90 2 1 [(.str 0 0), .nils] [(0, 2, (.st 0))])) true none),
  (.h [9], .op (.W (.app 90 2 (.st 8) (.st 0))) true none),
  (.q, .op (.P (.fa 2 (.sl r1))) true none),
  (.h [9], .op (.W (.st 1 (.st 0) (.st 1))) false none)])
 (.seq (.reg [.el,
  .op (.C (.cf 89 [(.sl r0), (.k (.str 1 124))])) true none,
  .op (.P (.no (.st 0))) false (some r3)])
 (.cond (.sl r3) (.exit 0)
 (.skip)))))))
 (.seq (.reg [.el,
  .op (.F (.bsl 9 1 1 [(.str 0 0)] [(0, 1, (.k (.str 1 59)))])) true none,
  .op (.C (.cf 58 [(.sl r0), (.st 0)])) false none])
 (.seq (.reg [.op (.R (.ld 3 true (.sl r1))) true none,
  .op (.W (.st 3 (.sl r2) (.st 0))) false none])
 (.ret)))))))
  [.cell (.sl r2) 3 true]

def m95 : SlotMap := [(0, r0), (2, r1)]
def c95 : VFn :=
 VFn.mk [some r0] (.seq (.reg [.op (.P (.mv (.k (.str 0 0)))) false (some r1)])
 (.seq (.reg [.el,
  .op (.C (.cf 91 [(.sl r0), (.k (.int .i64 2))])) true none,
  .op (.P (.mv (.st 0))) false (some r1)])
 (.ret)))
  [.sl (.sl r1)]

def m96 : SlotMap := [(0, r0), (5, r1), (11, r2), (1, r3), (4, r4)]
def c96 : VFn :=
 VFn.mk [some r0, some r3] (.seq (.reg [.op (.P (.mv (.k .nils))) false (some r4)])
 (.seq (.reg [.op (.P (.mv (.k .nils))) false (some r1)])
 (.seq (.reg [.el,
  .op (.F (.bsl 9 1 1 [(.str 0 0)] [(0, 1, (.k (.str 1 123)))])) true none,
  .op (.C (.cf 58 [(.sl r0), (.st 0)])) false none])
 (.seq (.block 0 (.loop (.seq (.seq (.reg [.el,
  .op (.C (.cf 89 [(.sl r0), (.k (.str 1 125))])) true none,
  .op (.P (.no (.st 0))) false (some r2)])
 (.cond (.sl r2) (.skip)
 (.exit 0)))
 (.block 1 (.seq (.reg [.el,
  .op (.F (.bsl 9 1 1 [(.str 0 0)] [(0, 1, (.k (.str 3 6714734)))])) true none,
  .op (.C (.cf 58 [(.sl r0), (.st 0)])) false none])
 (.reg [.op (.P (.mv (.sl r1))) true none,
  .el,
  .op (.C (.cv (.sl r3) [])) true none,
  .op (.F (.bsl 103 15 1 [(.str 0 0), .nils, .nils, .nils, (.int .i64 0), (.str 0 0), .nils, (.int .i64 0), (.int .i64 0), (.str 0 0), .nils, .nils, .nils, .nils, (.int .i64 0)] [(0, 15, (.st 0))])) true none,
  .op (.W (.app 103 15 (.st 2) (.st 0))) true none,
  .op (.P (.mv (.st 0))) false (some r1)]))))))
 (.seq (.reg [.el,
  .op (.P (.mv (.sl r1))) false (some r4)])
 (.ret))))))
  [.sl (.sl r4)]

def m97 : SlotMap := [(0, r0), (1, r1), (2, r2)]
def c97 : VFn :=
 VFn.mk [some r0] (.seq (.reg [.op (.F (.al 103 [(.str 0 0), .nils, .nils, .nils, (.int .i64 0), (.str 0 0), .nils, (.int .i64 0), (.int .i64 0), (.str 0 0), .nils, .nils, .nils, .nils, (.int .i64 0)])) false (some r1)])
 (.seq (.reg [.op (.R (.ld 1 false (.sl r0))) true none,
  .op (.C (.cf 98 [(.st 0)])) true none,
  .op (.F (.al 103 [(.str 0 0), .nils, .nils, .nils, (.int .i64 0), (.str 0 0), .nils, (.int .i64 0), (.int .i64 0), (.str 0 0), .nils, .nils, .nils, .nils, (.int .i64 0)])) false (some r2),
  .op (.W (.st 15 (.sl r2) (.st 0))) false none])
 (.seq (.reg [.op (.R (.ld 1 false (.sl r0))) true none,
  .op (.F (.bsl 9 1 1 [(.str 0 0)] [(0, 1, (.k (.str 1 59)))])) true none,
  .op (.C (.cf 58 [(.st 1), (.st 0)])) false none])
 (.seq (.reg [.op (.R (.ld 15 true (.sl r2))) true none,
  .op (.W (.st 15 (.sl r1) (.st 0))) false none])
 (.ret)))))
  [.cell (.sl r1) 15 true]

def m98 : SlotMap := [(0, r0), (3, r1), (2, r2)]
def c98 : VFn :=
 VFn.mk [some r0] (.seq (.reg [.op (.F (.al 103 [(.str 0 0), .nils, .nils, .nils, (.int .i64 0), (.str 0 0), .nils, (.int .i64 0), (.int .i64 0), (.str 0 0), .nils, .nils, .nils, .nils, (.int .i64 0)])) false (some r2)])
 (.seq (.reg [.el,
  .op (.C (.cf 59 [(.sl r0)])) true none,
  .el,
  .op (.C (.cf 131 [(.sl r0)])) true none,
  .op (.P (.bld [(.str 0 0), .nils, .nils, .nils, (.int .i64 0), (.str 0 0), .nils, (.int .i64 0), (.int .i64 0), (.str 0 0), .nils, .nils, .nils, .nils, (.int .i64 0)] [(0, 1, (.st 1)), (1, 1, (.st 0))])) true none,
  .op (.F (.al 103 [(.str 0 0), .nils, .nils, .nils, (.int .i64 0), (.str 0 0), .nils, (.int .i64 0), (.int .i64 0), (.str 0 0), .nils, .nils, .nils, .nils, (.int .i64 0)])) false (some r1),
  .op (.W (.st 15 (.sl r1) (.st 0))) false none])
 (.seq (.reg [.el,
  .op (.C (.cf 101 [(.sl r0)])) true none,
  .el,
  .op (.P (.ext 0 (.st 0))) true none,
  .op (.P (.ext 1 (.st 1))) true none,
  .op (.P (.fa 2 (.sl r1))) true none,
  .op (.W (.st 1 (.st 0) (.st 2))) false none,
  .op (.P (.fa 3 (.sl r1))) true none,
  .op (.W (.st 1 (.st 0) (.st 2))) false none])
 (.seq (.reg [.el,
  .op (.F (.bsl 9 1 1 [(.str 0 0)] [(0, 1, (.k (.str 1 58)))])) true none,
  .op (.C (.cf 58 [(.sl r0), (.st 0)])) false none])
 (.seq (.reg [.el,
  .op (.C (.cf 102 [(.sl r0)])) true none,
  .op (.P (.fa 4 (.sl r1))) true none,
  .op (.W (.st 3 (.st 0) (.st 1))) false none])
 (.seq (.reg [.op (.R (.ld 15 true (.sl r1))) true none,
  .op (.W (.st 15 (.sl r2) (.st 0))) false none])
 (.ret)))))))
  [.cell (.sl r2) 15 true]

def m99 : SlotMap := [(7, r0), (4, r1), (0, r2), (6, r3), (8, r4), (5, r5), (13, r6), (2, r7)]
def c99 : VFn :=
 VFn.mk [some r2] (.seq (.reg [.op (.P (.mv (.k (.str 0 0)))) false (some r7)])
 (.seq (.seq (.reg [.op (.F (.bsl 9 1 4 [(.str 0 0), (.str 0 0), (.str 0 0), (.str 0 0)] [(0, 1, (.k (.str 3 6909556))), (1, 1, (.k (.str 4 1651470188))), (2, 1, (.k (.str 4 1952807028))), (3, 1, (.k (.str 4 1970170228)))])) false (some r5),
  .op (.P (.ln 1 (.sl r5))) false (some r3),
  .op (.P (.mv (.k (.int .i64 0)))) false (some r0)])
 (.block 0 (.loop (.seq (.reg [.op (.P (.cmi .lss (.sl r0) (.sl r3))) false (some r4)])
 (.seq (.cond (.sl r4) (.skip)
 (.exit 0))
 (.seq (.block 1 (.seq (.reg [.op (.P (.ia 1 (.sl r5) (.sl r0))) true none,
  .op (.R (.ld 1 false (.st 0))) true none,
  .op (.P (.mv (.st 0))) false (some r1)])
 (.seq (.reg [.el,
  .el,
  .op (.C (.cf 89 [(.sl r2), (.sl r1)])) false (some r6)])
 (.cond (.sl r6) (.seq (.reg [.el,
  .op (.P (.mv (.sl r1))) false (some r7)])
 (.ret))
 (.skip)))))
 (.reg [.op (.P (.ar .add (.sl r0) (.k (.int .i64 1)))) true none,
  .op (.P (.mv (.st 0))) false (some r0)])))))))
 (.seq (.reg [.el,
  .op (.C (.cf 95 [(.sl r2)])) true none,
  .op (.P (.mv (.st 0))) false (some r7)])
 (.ret))))
  [.sl (.sl r7)]

def m100 : SlotMap := [(0, r0), (3, r1), (2, r2)]
def c100 : VFn :=
 VFn.mk [some r0] (.seq (.reg [.op (.F (.al 103 [(.str 0 0), .nils, .nils, .nils, (.int .i64 0), (.str 0 0), .nils, (.int .i64 0), (.int .i64 0), (.str 0 0), .nils, .nils, .nils, .nils, (.int .i64 0)])) false (some r2)])
 (.seq (.reg [.el,
  .op (.C (.cf 98 [(.sl r0)])) true none,
  .op (.F (.al 103 [(.str 0 0), .nils, .nils, .nils, (.int .i64 0), (.str 0 0), .nils, (.int .i64 0), (.int .i64 0), (.str 0 0), .nils, .nils, .nils, .nils, (.int .i64 0)])) false (some r1),
  .op (.W (.st 15 (.sl r1) (.st 0))) false none])
 (.seq (.reg [.el,
  .op (.F (.bsl 9 1 1 [(.str 0 0)] [(0, 1, (.k (.str 1 61)))])) true none,
  .op (.C (.cf 58 [(.sl r0), (.st 0)])) false none])
 (.seq (.reg [.el,
  .op (.C (.cf 103 [(.sl r0)])) true none,
  .op (.P (.fa 7 (.sl r1))) true none,
  .op (.W (.st 8 (.st 0) (.st 1))) false none])
 (.seq (.reg [.el,
  .op (.F (.bsl 9 1 1 [(.str 0 0)] [(0, 1, (.k (.str 1 59)))])) true none,
  .op (.C (.cf 58 [(.sl r0), (.st 0)])) false none])
 (.seq (.reg [.op (.R (.ld 15 true (.sl r1))) true none,
  .op (.W (.st 15 (.sl r2) (.st 0))) false none])
 (.ret)))))))
  [.cell (.sl r2) 15 true]

def m101 : SlotMap := [(10, r0), (3, r1), (2, r2), (0, r3), (1, r4), (9, r5), (11, r6), (8, r7), (5, r8)]
def c101 : VFn :=
 VFn.mk [some r3] (.seq (.reg [.op (.F (.bx 150 (.sl r3))) false (some r4),
  .op (.P (.mv (.k .nils))) false (some r2),
  .op (.P (.mv (.k .nils))) false (some r1)])
 (.seq (.seq (.reg [.op (.R (.ld 1 false (.sl r4))) true none,
  .op (.P (.mkf 134 [] [(.sl r4)])) true none,
  .op (.C (.cf 133 [(.st 1), (.st 0)])) false (some r7),
  .op (.P (.ln 1 (.sl r7))) false (some r5),
  .op (.P (.mv (.k (.int .i64 0)))) false (some r0)])
 (.block 0 (.loop (.seq (.reg [.op (.P (.cmi .lss (.sl r0) (.sl r5))) false (some r6)])
 (.seq (.cond (.sl r6) (.skip)
 (.exit 0))
 (.seq (.block 1 (.seq (.reg [.op (.P (.ia 4 (.sl r7) (.sl r0))) true none,
  .op (.R (.ld 4 true (.st 0))) true none,
  .op (.F (.al 258 [(.str 0 0), (.int .i64 0), (.str 0 0), .nils])) false (some r8),
  .op (.W (.st 4 (.sl r8) (.st 0))) false none])
 (.dreg [(.q, .op (.P (.mv (.sl r2))) true none),
  (.q, .op (.P (.fa 0 (.sl r8))) true none),
  (.r 0 0, .op (.R (.ld 1 false (.st 0))) true none),
  (.f, .op (.F (.bsl 9 1 1 [(.str 0 0)] [(0, 1, (.st 0))])) true none),
  (.h [3], .op (.W (.app 9 1 (.st 3) (.st 0))) true none),
  (.q, .op (.P (.mv (.sl r1))) true none),
  (.q, .op (.P (.fa 1 (.sl r8))) true none),
  (.r 0 1, .op (.R (.ld 3 true (.st 0))) true none),
  (.f, .op (.F (.bsl 97 3 1 [(.int .i64 0), (.str 0 0), .nils] [(0, 3, (.st 0))])) true none),
  (.h [3, 8], .op (.W (.app 97 3 (.st 3) (.st 0))) true none),
  (.q, .op (.P (.mv (.st 5))) false (some r2)),
  (.q, .op (.P (.mv (.st 0))) false (some r1))])))
 (.reg [.op (.P (.ar .add (.sl r0) (.k (.int .i64 1)))) true none,
  .op (.P (.mv (.st 0))) false (some r0)])))))))
 (.seq (.reg [.op (.P (.mv (.sl r2))) true none,
  .op (.P (.mv (.sl r1))) true none,
  .op (.P (.mv (.st 1))) false (some r2),
  .op (.P (.mv (.st 0))) false (some r1)])
 (.ret))))
  [.sl (.sl r2), .sl (.sl r1)]

def m102 : SlotMap := [(0, r0), (2, r1), (10, r2), (6, r3), (52, r4), (59, r5), (7, r6), (9, r7), (11, r8), (8, r9), (4, r10), (17, r11), (3, r12), (22, r13), (26, r14), (5, r15), (42, r16), (70, r17)]
def c102 : VFn :=
 VFn.mk [some r0] (.seq (.reg [.op (.F (.al 97 [(.int .i64 0), (.str 0 0), .nils])) false (some r1)])
 (.seq (.seq (.reg [.op (.F (.bsl 9 1 4 [(.str 0 0), (.str 0 0), (.str 0 0), (.str 0 0)] [(0, 1, (.k (.str 3 6909556))), (1, 1, (.k (.str 4 1651470188))), (2, 1, (.k (.str 4 1952807028))), (3, 1, (.k (.str 4 1970170228)))])) false (some r9),
  .op (.P (.ln 1 (.sl r9))) false (some r7),
  .op (.P (.mv (.k (.int .i64 0)))) false (some r2)])
 (.block 0 (.loop (.seq (.reg [.op (.P (.cmi .lss (.sl r2) (.sl r7))) false (some r8)])
 (.seq (.cond (.sl r8) (.skip)
 (.exit 0))
 (.seq (.block 1 (.seq (.reg [.el,
  .op (.P (.ia 1 (.sl r9) (.sl r2))) true none,
  .op (.R (.ld 1 false (.st 0))) true none,
  .op (.P (.mv (.sl r2))) false (some r12),
  .op (.P (.mv (.st 0))) false (some r10)])
 (.seq (.reg [.el,
  .el,
  .op (.C (.cf 89 [(.sl r0), (.sl r10)])) false (some r11)])
 (.cond (.sl r11) (.seq (.reg [.el,
  .op (.P (.ar .add (.k (.int .i64 1)) (.sl r12))) true none,
  .op (.P (.bld [(.int .i64 0), (.str 0 0), .nils] [(0, 1, (.st 0))])) true none,
  .op (.W (.st 3 (.sl r1) (.st 0))) false none])
 (.ret))
 (.skip)))))
 (.reg [.op (.P (.ar .add (.sl r2) (.k (.int .i64 1)))) true none,
  .op (.P (.mv (.st 0))) false (some r2)])))))))
 (.seq (.block 2 (.seq (.reg [.el,
  .op (.C (.cf 89 [(.sl r0), (.k (.str 4 1936026726))])) true none,
  .op (.P (.mv (.st 0))) false (some r13)])
 (.cond (.sl r13) (.seq (.reg [.op (.P (.bld [(.int .i64 0), (.str 0 0), .nils] [(0, 1, (.k (.int .i64 5))), (1, 1, (.k (.str 4 1936026726)))])) true none,
  .op (.W (.st 3 (.sl r1) (.st 0))) false none])
 (.ret))
 (.seq (.reg [.el,
  .op (.C (.cf 89 [(.sl r0), (.k (.str 2 26222))])) true none,
  .op (.P (.mv (.st 0))) false (some r14)])
 (.cond (.sl r14) (.seq (.reg [.el,
  .el,
  .op (.P (.mkf 102 [(.sl r0)] [])) true none,
  .op (.C (.cf 135 [(.sl r0), (.st 0)])) true none,
  .op (.P (.mv (.st 0))) false (some r15)])
 (.seq (.reg [.el,
  .op (.F (.bsl 9 1 1 [(.str 0 0)] [(0, 1, (.k (.str 1 58)))])) true none,
  .op (.C (.cf 58 [(.sl r0), (.st 0)])) false none])
 (.seq (.reg [.el,
  .el,
  .op (.C (.cf 102 [(.sl r0)])) true none,
  .op (.F (.bsl 97 3 1 [(.int .i64 0), (.str 0 0), .nils] [(0, 3, (.st 0))])) true none,
  .op (.W (.app 97 3 (.sl r15) (.st 0))) true none,
  .op (.P (.bld [(.int .i64 0), (.str 0 0), .nils] [(0, 1, (.k (.int .i64 7))), (2, 1, (.st 0))])) true none,
  .op (.W (.st 3 (.sl r1) (.st 0))) false none])
 (.ret))))
 (.seq (.reg [.el,
  .op (.C (.cf 92 [(.sl r0)])) true none,
  .op (.P (.fld 0 1 false (.st 0))) true none,
  .op (.P (.cmi .eql (.st 0) (.k (.int .i64 1)))) true none,
  .op (.P (.mv (.st 0))) false (some r16)])
 (.cond (.sl r16) (.seq (.reg [.el,
  .op (.C (.cf 59 [(.sl r0)])) true none,
  .op (.P (.bld [(.int .i64 0), (.str 0 0), .nils] [(0, 1, (.k (.int .i64 5))), (1, 1, (.st 0))])) true none,
  .op (.W (.st 3 (.sl r1) (.st 0))) false none])
 (.ret))
 (.skip))))))))
 (.seq (.reg [.el,
  .op (.C (.cf 95 [(.sl r0)])) true none,
  .op (.P (.mv (.st 0))) false (some r3)])
 (.seq (.reg [.op (.P (.mv (.sl r3))) false (some r4)])
 (.block 3 (.seq (.seq (.reg [.op (.P (.cms .eql (.sl r4) (.k (.str 3 5399910)))) true none,
  .op (.P (.mv (.st 0))) false (some r5)])
 (.cond (.sl r5) (.skip)
 (.reg [.op (.P (.cms .eql (.sl r4) (.k (.str 4 1130720364)))) true none,
  .op (.P (.mv (.st 0))) false (some r5)])))
 (.cond (.sl r5) (.seq (.reg [.el,
  .op (.F (.bsl 9 1 1 [(.str 0 0)] [(0, 1, (.k (.str 1 40)))])) true none,
  .op (.C (.cf 58 [(.sl r0), (.st 0)])) false none])
 (.seq (.reg [.el,
  .op (.C (.cf 102 [(.sl r0)])) true none,
  .op (.F (.bsl 97 3 1 [(.int .i64 0), (.str 0 0), .nils] [(0, 3, (.st 0))])) true none,
  .op (.P (.bld [(.int .i64 0), (.str 0 0), .nils] [(0, 1, (.k (.int .i64 8))), (2, 1, (.st 0))])) true none,
  .op (.F (.al 97 [(.int .i64 0), (.str 0 0), .nils])) false (some r6),
  .op (.W (.st 3 (.sl r6) (.st 0))) false none])
 (.seq (.seq (.reg [.el,
  .op (.P (.cms .eql (.sl r3) (.k (.str 4 1130720364)))) false (some r17)])
 (.cond (.sl r17) (.reg [.op (.P (.fa 0 (.sl r6))) true none,
  .op (.W (.st 1 (.st 0) (.k (.int .i64 9)))) false none])
 (.skip)))
 (.seq (.reg [.el,
  .op (.F (.bsl 9 1 1 [(.str 0 0)] [(0, 1, (.k (.str 1 41)))])) true none,
  .op (.C (.cf 58 [(.sl r0), (.st 0)])) false none])
 (.seq (.reg [.op (.R (.ld 3 true (.sl r6))) true none,
  .op (.W (.st 3 (.sl r1) (.st 0))) false none])
 (.ret))))))
 (.seq (.reg [.el,
  .el,
  .el,
  .op (.P (.mkf 102 [(.sl r0)] [])) true none,
  .op (.C (.cf 132 [(.sl r0), (.st 0)])) true none,
  .op (.P (.bld [(.int .i64 0), (.str 0 0), .nils] [(0, 1, (.k (.int .i64 6))), (1, 1, (.sl r3)), (2, 1, (.st 0))])) true none,
  .op (.W (.st 3 (.sl r1) (.st 0))) false none])
 (.ret))))))))))
  [.cell (.sl r1) 3 true]

def m103 : SlotMap := [(0, r0), (4, r1), (2, r2), (3, r3)]
def c103 : VFn :=
 VFn.mk [some r0] (.seq (.reg [.op (.F (.al 101 [(.int .i64 0), (.int .i64 0), (.str 0 0), .nils, .nils, .nils, .nils, (.int .i64 0)])) false (some r2)])
 (.seq (.reg [.el,
  .op (.C (.cf 127 [(.sl r0)])) true none,
  .op (.P (.mv (.st 0))) false (some r3)])
 (.seq (.reg [.el,
  .op (.C (.cf 136 [(.sl r0)])) true none,
  .op (.F (.al 101 [(.int .i64 0), (.int .i64 0), (.str 0 0), .nils, .nils, .nils, .nils, (.int .i64 0)])) false (some r1),
  .op (.W (.st 8 (.sl r1) (.st 0))) false none])
 (.seq (.reg [.el,
  .op (.P (.fa 7 (.sl r1))) true none,
  .op (.W (.st 1 (.st 0) (.sl r3))) false none])
 (.seq (.reg [.op (.R (.ld 8 true (.sl r1))) true none,
  .op (.W (.st 8 (.sl r2) (.st 0))) false none])
 (.ret))))))
  [.cell (.sl r2) 8 true]

def m104 : SlotMap := [(0, r0), (19, r1), (16, r2), (18, r3), (20, r4), (3, r5), (26, r6), (2, r7)]
def c104 : VFn :=
 VFn.mk [some r0] (.seq (.reg [.op (.P (.mv (.k (.bool false)))) false (some r7)])
 (.seq (.seq (.reg [.el,
  .op (.P (.cms .eql (.sl r0) (.k (.str 0 0)))) true none,
  .el,
  .op (.G (.st 0) false (.P (.mv (.sl r0)))) true none,
  .op (.G (.st 1) false (.P (.ln 0 (.st 0)))) true none,
  .op (.G (.st 2) false (.P (.cmi .gtr (.st 0) (.k (.int .i64 16))))) true none,
  .op (.P (.pick (.st 3) (.k (.bool true)) (.st 0))) true none,
  .el,
  .op (.G (.st 0) false (.P (.mv (.sl r0)))) true none,
  .op (.G (.st 1) false (.P (.idxs (.st 0) (.k (.int .i64 0))))) true none,
  .op (.G (.st 2) false (.C (.cf 82 [(.st 0)]))) true none,
  .op (.G (.st 3) false (.P (.no (.st 0)))) true none,
  .op (.P (.pick (.st 4) (.k (.bool true)) (.st 0))) false (some r2)])
 (.cond (.sl r2) (.seq (.reg [.op (.P (.mv (.k (.bool false)))) false (some r7)])
 (.ret))
 (.skip)))
 (.seq (.seq (.reg [.el,
  .op (.P (.ln 0 (.sl r0))) false (some r3),
  .op (.P (.mv (.k (.int .i64 0)))) false (some r1)])
 (.block 0 (.loop (.seq (.reg [.op (.P (.cmi .lss (.sl r1) (.sl r3))) false (some r4)])
 (.seq (.cond (.sl r4) (.skip)
 (.exit 0))
 (.seq (.block 1 (.seq (.reg [.el,
  .op (.P (.mv (.sl r1))) false (some r5)])
 (.seq (.reg [.el,
  .el,
  .op (.P (.idxs (.sl r0) (.sl r5))) true none,
  .op (.C (.cf 83 [(.st 0)])) true none,
  .op (.P (.no (.st 0))) false (some r6)])
 (.cond (.sl r6) (.seq (.reg [.op (.P (.mv (.k (.bool false)))) false (some r7)])
 (.ret))
 (.skip)))))
 (.reg [.op (.P (.ar .add (.sl r1) (.k (.int .i64 1)))) true none,
  .op (.P (.mv (.st 0))) false (some r1)])))))))
 (.seq (.reg [.op (.P (.mv (.k (.bool true)))) false (some r7)])
 (.ret)))))
  [.sl (.sl r7)]

def m105 : SlotMap := [(0, r0), (2, r1)]
def c105 : VFn :=
 VFn.mk [some r0] (.seq (.reg [.op (.P (.mv (.k (.bool false)))) false (some r1)])
 (.seq (.reg [.el,
  .op (.P (.cmi .geq (.sl r0) (.k (.int .u8 97)))) true none,
  .el,
  .op (.G (.st 0) true (.P (.mv (.sl r0)))) true none,
  .op (.G (.st 1) true (.P (.cmi .leq (.st 0) (.k (.int .u8 122))))) true none,
  .op (.P (.pick (.st 2) (.st 0) (.k (.bool false)))) true none,
  .op (.P (.mv (.st 0))) false (some r1)])
 (.ret)))
  [.sl (.sl r1)]

def m106 : SlotMap := [(0, r0), (5, r1), (1, r2), (4, r3)]
def c106 : VFn :=
 VFn.mk [some r0, some r2] (.seq (.reg [.op (.P (.mv (.k (.int .i64 0)))) false (some r3)])
 (.seq (.seq (.reg [.op (.P (.mv (.sl r0))) false (some r1)])
 (.cond (.sl r1) (.seq (.reg [.el,
  .op (.P (.mv (.sl r2))) false (some r3)])
 (.ret))
 (.skip)))
 (.seq (.reg [.op (.P (.mv (.k (.int .i64 0)))) false (some r3)])
 (.ret))))
  [.sl (.sl r3)]

def m107 : SlotMap := [(0, r0), (2, r1)]
def c107 : VFn :=
 VFn.mk [some r0] (.seq (.reg [.op (.P (.mv (.k (.bool false)))) false (some r1)])
 (.seq (.reg [.el,
  .op (.P (.cms .eql (.sl r0) (.k (.str 3 5399910)))) true none,
  .el,
  .op (.G (.st 0) false (.P (.mv (.sl r0)))) true none,
  .op (.G (.st 1) false (.P (.cms .eql (.st 0) (.k (.str 4 1130720364))))) true none,
  .op (.P (.pick (.st 2) (.k (.bool true)) (.st 0))) true none,
  .op (.P (.mv (.st 0))) false (some r1)])
 (.ret)))
  [.sl (.sl r1)]

def m108 : SlotMap := [(8, r0), (3, r1), (5, r2), (0, r3), (7, r4), (9, r5), (6, r6), (14, r7), (2, r8)]
def c108 : VFn :=
 VFn.mk [some r3] (.seq (.reg [.op (.P (.mv (.k (.int .i64 0)))) false (some r8)])
 (.seq (.reg [.op (.P (.mv (.k (.int .i64 0)))) false (some r1)])
 (.seq (.seq (.reg [.op (.P (.mv (.sl r3))) false (some r6),
  .op (.P (.ln 1 (.sl r6))) false (some r4),
  .op (.P (.mv (.k (.int .i64 0)))) false (some r0)])
 (.block 0 (.loop (.seq (.reg [.op (.P (.cmi .lss (.sl r0) (.sl r4))) false (some r5)])
 (.seq (.cond (.sl r5) (.skip)
 (.exit 0))
 (.seq (.block 1 (.seq (.reg [.op (.P (.ia 1 (.sl r6) (.sl r0))) true none,
  .op (.R (.ld 1 false (.st 0))) true none,
  .op (.P (.mv (.st 0))) false (some r2)])
 (.seq (.reg [.el,
  .el,
  .op (.P (.cmi .neq (.sl r2) (.sl r1))) false (some r7)])
 (.cond (.sl r7) (.seq (.reg [.el,
  .op (.P (.mv (.sl r2))) false (some r8)])
 (.ret))
 (.skip)))))
 (.reg [.op (.P (.ar .add (.sl r0) (.k (.int .i64 1)))) true none,
  .op (.P (.mv (.st 0))) false (some r0)])))))))
 (.seq (.reg [.el,
  .op (.P (.mv (.sl r1))) false (some r8)])
 (.ret)))))
  [.sl (.sl r8)]

def m109 : SlotMap := [(0, r0), (5, r1), (2, r2)]
def c109 : VFn :=
 VFn.mk [some r0] (.seq (.reg [.op (.P (.mv (.k (.int .i64 0)))) false (some r2)])
 (.seq (.seq (.reg [.el,
  .op (.P (.ln 1 (.sl r0))) true none,
  .op (.P (.cmi .gtr (.st 0) (.k (.int .i64 6)))) false (some r1)])
 (.cond (.sl r1) (.seq (.reg [.op (.P (.mv (.k (.int .i64 2)))) false (some r2)])
 (.ret))
 (.skip)))
 (.seq (.reg [.el,
  .op (.C (.cf 137 [(.sl r0), (.k (.fn 138 [] []))])) true none,
  .op (.P (.mv (.st 0))) false (some r2)])
 (.ret))))
  [.sl (.sl r2)]

def m110 : SlotMap := [(10, r0), (7, r1), (0, r2), (9, r3), (11, r4), (8, r5), (6, r6), (1, r7), (18, r8), (4, r9)]
def c110 : VFn :=
 VFn.mk [some r2, some r7] (.seq (.reg [.op (.P (.mv (.k (.int .i64 0)))) false (some r9)])
 (.seq (.seq (.reg [.op (.P (.mv (.sl r2))) false (some r5),
  .op (.P (.ln 1 (.sl r5))) false (some r3),
  .op (.P (.mv (.k (.int .i64 0)))) false (some r0)])
 (.block 0 (.loop (.seq (.reg [.op (.P (.cmi .lss (.sl r0) (.sl r3))) false (some r4)])
 (.seq (.cond (.sl r4) (.skip)
 (.exit 0))
 (.seq (.block 1 (.seq (.reg [.op (.P (.ia 2 (.sl r5) (.sl r0))) true none,
  .op (.R (.ld 2 true (.st 0))) true none,
  .op (.F (.al 90 [(.str 0 0), .nils])) false (some r6),
  .op (.W (.st 2 (.sl r6) (.st 0))) false none])
 (.seq (.reg [.el,
  .op (.R (.ld 2 true (.sl r6))) true none,
  .op (.C (.cv (.sl r7) [(.st 0)])) true none,
  .op (.P (.mv (.st 0))) false (some r1)])
 (.seq (.reg [.el,
  .op (.P (.cmi .neq (.sl r1) (.k (.int .i64 0)))) false (some r8)])
 (.cond (.sl r8) (.seq (.reg [.el,
  .op (.P (.mv (.sl r1))) false (some r9)])
 (.ret))
 (.skip))))))
 (.reg [.op (.P (.ar .add (.sl r0) (.k (.int .i64 1)))) true none,
  .op (.P (.mv (.st 0))) false (some r0)])))))))
 (.seq (.reg [.op (.P (.mv (.k (.int .i64 0)))) false (some r9)])
 (.ret))))
  [.sl (.sl r9)]

def m111 : SlotMap := [(1, r0), (0, r1), (3, r2), (8, r3), (2, r4)]
def c111 : VFn :=
 VFn.mk [some r1] (.seq (.reg [.op (.F (.bx 90 (.sl r1))) false (some r0),
  .op (.P (.mv (.k (.int .i64 0)))) false (some r4)])
 (.seq (.block 0 (.seq (.reg [.op (.P (.fa 0 (.sl r0))) true none,
  .op (.R (.ld 1 false (.st 0))) true none,
  .op (.C (.cf 85 [(.st 0)])) true none,
  .op (.P (.no (.st 0))) true none,
  .op (.P (.mv (.st 0))) false (some r2)])
 (.cond (.sl r2) (.seq (.reg [.op (.P (.mv (.k (.int .i64 3)))) false (some r4)])
 (.ret))
 (.seq (.reg [.op (.P (.fa 1 (.sl r0))) true none,
  .op (.R (.ld 1 false (.st 0))) true none,
  .op (.P (.ln 1 (.st 0))) true none,
  .op (.P (.cmi .gtr (.st 0) (.k (.int .i64 6)))) true none,
  .op (.P (.mv (.st 0))) false (some r3)])
 (.cond (.sl r3) (.seq (.reg [.op (.P (.mv (.k (.int .i64 2)))) false (some r4)])
 (.ret))
 (.skip))))))
 (.seq (.reg [.op (.P (.fa 1 (.sl r0))) true none,
  .op (.R (.ld 1 false (.st 0))) true none,
  .op (.C (.cf 112 [(.st 0)])) true none,
  .op (.P (.mv (.st 0))) false (some r4)])
 (.ret))))
  [.sl (.sl r4)]

def m112 : SlotMap := [(0, r0), (2, r1)]
def c112 : VFn :=
 VFn.mk [some r0] (.seq (.reg [.op (.P (.mv (.k (.int .i64 0)))) false (some r1)])
 (.seq (.reg [.el,
  .op (.C (.cf 139 [(.sl r0), (.k (.fn 140 [] []))])) true none,
  .op (.P (.mv (.st 0))) false (some r1)])
 (.ret)))
  [.sl (.sl r1)]

def m113 : SlotMap := [(1, r0), (0, r1), (3, r2), (4, r3), (2, r4)]
def c113 : VFn :=
 VFn.mk [some r1] (.seq (.reg [.op (.F (.bx 103 (.sl r1))) false (some r0),
  .op (.P (.mv (.k (.int .i64 0)))) false (some r4)])
 (.seq (.reg [.op (.P (.fa 7 (.sl r0))) true none,
  .op (.R (.ld 8 true (.st 0))) true none,
  .op (.F (.al 101 [(.int .i64 0), (.int .i64 0), (.str 0 0), .nils, .nils, .nils, .nils, (.int .i64 0)])) false (some r2),
  .op (.W (.st 8 (.sl r2) (.st 0))) false none])
 (.seq (.reg [.op (.P (.fa 0 (.sl r2))) true none,
  .op (.R (.ld 1 false (.st 0))) true none,
  .op (.P (.cmi .eql (.st 0) (.k (.int .i64 0)))) true none,
  .el,
  .op (.G (.st 0) true (.P (.fa 1 (.sl r2)))) true none,
  .op (.G (.st 1) true (.R (.ld 1 false (.st 0)))) true none,
  .op (.G (.st 2) true (.P (.cmi .eql (.st 0) (.k (.int .i64 0))))) true none,
  .op (.P (.pick (.st 3) (.st 0) (.k (.bool false)))) true none,
  .el,
  .op (.G (.st 0) true (.P (.fa 2 (.sl r2)))) true none,
  .op (.G (.st 1) true (.R (.ld 1 false (.st 0)))) true none,
  .op (.G (.st 2) true (.P (.cms .eql (.st 0) (.k (.str 0 0))))) true none,
  .op (.P (.pick (.st 3) (.st 0) (.k (.bool false)))) true none,
  .el,
  .op (.G (.st 0) true (.P (.fa 3 (.sl r2)))) true none,
  .op (.G (.st 1) true (.R (.ld 1 false (.st 0)))) true none,
  .op (.G (.st 2) true (.P (.ln 1 (.st 0)))) true none,
  .op (.G (.st 3) true (.P (.fa 4 (.sl r2)))) true none,
  .op (.G (.st 4) true (.R (.ld 1 false (.st 0)))) true none,
  .op (.G (.st 5) true (.P (.ln 1 (.st 0)))) true none,
  .op (.G (.st 6) true (.P (.ar .add (.st 3) (.st 0)))) true none,
  .op (.G (.st 7) true (.P (.fa 5 (.sl r2)))) true none,
  .op (.G (.st 8) true (.R (.ld 1 false (.st 0)))) true none,
  .op (.G (.st 9) true (.P (.ln 1 (.st 0)))) true none,
  .op (.G (.st 10) true (.P (.ar .add (.st 3) (.st 0)))) true none,
  .op (.G (.st 11) true (.P (.fa 6 (.sl r2)))) true none,
  .op (.G (.st 12) true (.R (.ld 1 false (.st 0)))) true none,
  .op (.G (.st 13) true (.P (.ln 1 (.st 0)))) true none,
  .op (.G (.st 14) true (.P (.ar .add (.st 3) (.st 0)))) true none,
  .op (.G (.st 15) true (.P (.cmi .eql (.st 0) (.k (.int .i64 0))))) true none,
  .op (.P (.pick (.st 16) (.st 0) (.k (.bool false)))) true none,
  .op (.P (.mv (.st 0))) false (some r3)])
 (.seq (.reg [.op (.R (.ld 15 true (.sl r0))) true none,
  .op (.C (.cf 114 [(.st 0)])) true none,
  .el,
  .op (.P (.no (.sl r3))) true none,
  .op (.C (.cf 106 [(.st 0), (.k (.int .i64 3))])) true none,
  .op (.F (.bsl 59 1 2 [(.int .i64 0), (.int .i64 0)] [(0, 1, (.st 2)), (1, 1, (.st 0))])) true none,
  .op (.C (.cf 108 [(.st 0)])) true none,
  .op (.P (.mv (.st 0))) false (some r4)])
 (.ret)))))
  [.sl (.sl r4)]

def m114 : SlotMap := [(1, r0), (0, r1), (15, r2), (2, r3)]
def c114 : VFn :=
 VFn.mk [some r1] (.seq (.reg [.op (.F (.bx 103 (.sl r1))) false (some r0),
  .op (.P (.mv (.k (.int .i64 0)))) false (some r3)])
 (.seq (.seq (.reg [.op (.P (.fa 0 (.sl r0))) true none,
  .op (.R (.ld 1 false (.st 0))) true none,
  .op (.C (.cf 62 [(.st 0)])) true none,
  .op (.P (.no (.st 0))) true none,
  .el,
  .op (.G (.st 0) false (.P (.fa 2 (.sl r0)))) true none,
  .op (.G (.st 1) false (.R (.ld 1 false (.st 0)))) true none,
  .op (.G (.st 2) false (.P (.ln 1 (.st 0)))) true none,
  .op (.G (.st 3) false (.P (.fa 3 (.sl r0)))) true none,
  .op (.G (.st 4) false (.R (.ld 1 false (.st 0)))) true none,
  .op (.G (.st 5) false (.P (.ln 1 (.st 0)))) true none,
  .op (.G (.st 6) false (.P (.cmi .neq (.st 3) (.st 0)))) true none,
  .op (.P (.pick (.st 7) (.k (.bool true)) (.st 0))) false (some r2)])
 (.cond (.sl r2) (.seq (.reg [.op (.P (.mv (.k (.int .i64 3)))) false (some r3)])
 (.ret))
 (.skip)))
 (.seq (.dreg [(.q, .op (.P (.fa 1 (.sl r0))) true none),
  (.r 0 0, .op (.R (.ld 1 false (.st 0))) true none),
  (.h [], .op (.C (.cf 109 [(.st 0)])) true none),
  (.q, .op (.P (.fa 2 (.sl r0))) true none),
  (.r 0 1, .op (.R (.ld 1 false (.st 0))) true none),
  (.h [], .op (.C (.cf 109 [(.st 0)])) true none),
  (.q, .op (.P (.fa 3 (.sl r0))) true none),
  (.r 0 2, .op (.R (.ld 1 false (.st 0))) true none),
  (.h [], .op (.C (.cf 112 [(.st 0)])) true none),
  (.q, .op (.P (.fa 4 (.sl r0))) true none),
  (.r 0 3, .op (.R (.ld 3 true (.st 0))) true none),
  (.h [], .op (.C (.cf 116 [(.st 0), (.k (.int .i64 1))])) true none),
  (.f, .op (.F (.bsl 59 1 4 [(.int .i64 0), (.int .i64 0), (.int .i64 0), (.int .i64 0)] [(0, 1, (.st 9)), (1, 1, (.st 6)), (2, 1, (.st 3)), (3, 1, (.st 0))])) true none),
  (.h [12], .op (.C (.cf 108 [(.st 0)])) true none),
  (.q, .op (.P (.mv (.st 0))) false (some r3))])
 (.ret))))
  [.sl (.sl r3)]

def m115 : SlotMap := [(2, r0), (0, r1), (12, r2), (1, r3), (4, r4)]
def c115 : VFn :=
 VFn.mk [some r1, some r3] (.seq (.reg [.op (.F (.bx 101 (.sl r1))) false (some r0),
  .op (.P (.mv (.k (.int .i64 0)))) false (some r4)])
 (.seq (.seq (.reg [.op (.R (.ld 8 true (.sl r0))) true none,
  .op (.C (.cf 141 [(.st 0)])) true none,
  .op (.P (.cmi .gtr (.st 0) (.k (.int .i64 400)))) true none,
  .el,
  .op (.G (.st 0) false (.R (.ld 8 true (.sl r0)))) true none,
  .op (.G (.st 1) false (.C (.cf 142 [(.st 0)]))) true none,
  .op (.G (.st 2) false (.P (.cmi .gtr (.st 0) (.k (.int .i64 40))))) true none,
  .op (.P (.pick (.st 3) (.k (.bool true)) (.st 0))) false (some r2)])
 (.cond (.sl r2) (.seq (.reg [.op (.P (.mv (.k (.int .i64 2)))) false (some r4)])
 (.ret))
 (.skip)))
 (.seq (.reg [.op (.R (.ld 8 true (.sl r0))) true none,
  .el,
  .op (.C (.cf 143 [(.st 0), (.sl r3)])) true none,
  .op (.P (.mv (.st 0))) false (some r4)])
 (.ret))))
  [.sl (.sl r4)]

def m116 : SlotMap := [(2, r0), (24, r1), (3, r2), (78, r3), (1, r4), (0, r5), (6, r6), (9, r7), (18, r8), (34, r9), (50, r10), (67, r11), (5, r12), (91, r13), (4, r14)]
def c116 : VFn :=
 VFn.mk [some r5, some r4] (.seq (.reg [.op (.F (.bx 97 (.sl r5))) false (some r0),
  .op (.F (.bx 3 (.sl r4))) false (some r2),
  .op (.P (.mv (.k (.int .i64 0)))) false (some r14)])
 (.seq (.block 0 (.seq (.reg [.op (.R (.ld 1 false (.sl r2))) true none,
  .op (.P (.cmi .gtr (.st 0) (.k (.int .i64 40)))) true none,
  .op (.P (.mv (.st 0))) false (some r6)])
 (.cond (.sl r6) (.seq (.reg [.op (.P (.mv (.k (.int .i64 2)))) false (some r14)])
 (.ret))
 (.seq (.reg [.op (.P (.fa 0 (.sl r0))) true none,
  .op (.R (.ld 1 false (.st 0))) true none,
  .op (.P (.cmi .lss (.st 0) (.k (.int .i64 1)))) true none,
  .el,
  .op (.G (.st 0) false (.P (.fa 0 (.sl r0)))) true none,
  .op (.G (.st 1) false (.R (.ld 1 false (.st 0)))) true none,
  .op (.G (.st 2) false (.P (.cmi .gtr (.st 0) (.k (.int .i64 9))))) true none,
  .op (.P (.pick (.st 3) (.k (.bool true)) (.st 0))) true none,
  .op (.P (.mv (.st 0))) false (some r7)])
 (.cond (.sl r7) (.seq (.reg [.op (.P (.mv (.k (.int .i64 3)))) false (some r14)])
 (.ret))
 (.seq (.reg [.op (.P (.fa 2 (.sl r0))) true none,
  .op (.R (.ld 1 false (.st 0))) true none,
  .op (.P (.ln 1 (.st 0))) true none,
  .op (.P (.cmi .gtr (.st 0) (.k (.int .i64 7)))) true none,
  .op (.P (.mv (.st 0))) false (some r8)])
 (.cond (.sl r8) (.seq (.reg [.op (.P (.mv (.k (.int .i64 2)))) false (some r14)])
 (.ret))
 (.skip))))))))
 (.seq (.reg [.op (.P (.mv (.k (.bool true)))) false (some r12)])
 (.seq (.seq (.reg [.op (.P (.fa 0 (.sl r0))) true none,
  .op (.R (.ld 1 false (.st 0))) false (some r1)])
 (.block 1 (.seq (.reg [.op (.P (.cmi .eql (.sl r1) (.k (.int .i64 5)))) true none,
  .op (.P (.mv (.st 0))) false (some r9)])
 (.cond (.sl r9) (.reg [.op (.P (.fa 2 (.sl r0))) true none,
  .op (.R (.ld 1 false (.st 0))) true none,
  .op (.P (.ln 1 (.st 0))) true none,
  .op (.P (.cmi .eql (.st 0) (.k (.int .i64 0)))) true none,
  .el,
  .op (.G (.st 0) true (.P (.fa 1 (.sl r0)))) true none,
  .op (.G (.st 1) true (.R (.ld 1 false (.st 0)))) true none,
  .op (.G (.st 2) true (.C (.cf 62 [(.st 0)]))) true none,
  .op (.G (.st 3) true (.P (.mv (.st 0)))) true none,
  .op (.G (.st 0) false (.P (.fa 1 (.sl r0)))) true none,
  .op (.G (.st 1) false (.R (.ld 1 false (.st 0)))) true none,
  .op (.G (.st 2) false (.P (.cms .eql (.st 0) (.k (.str 4 1936026726))))) true none,
  .op (.G (.st 7) true (.P (.pick (.st 3) (.k (.bool true)) (.st 0)))) true none,
  .op (.P (.pick (.st 8) (.st 0) (.k (.bool false)))) true none,
  .op (.P (.mv (.st 0))) false (some r12)])
 (.seq (.reg [.op (.P (.cmi .eql (.sl r1) (.k (.int .i64 6)))) true none,
  .op (.P (.mv (.st 0))) false (some r10)])
 (.cond (.sl r10) (.reg [.op (.P (.fa 1 (.sl r0))) true none,
  .op (.R (.ld 1 false (.st 0))) true none,
  .op (.C (.cf 85 [(.st 0)])) true none,
  .el,
  .op (.G (.st 0) true (.P (.fa 1 (.sl r0)))) true none,
  .op (.G (.st 1) true (.R (.ld 1 false (.st 0)))) true none,
  .op (.G (.st 2) true (.C (.cf 107 [(.st 0)]))) true none,
  .op (.G (.st 3) true (.P (.no (.st 0)))) true none,
  .op (.P (.pick (.st 4) (.st 0) (.k (.bool false)))) true none,
  .el,
  .op (.G (.st 0) true (.P (.fa 2 (.sl r0)))) true none,
  .op (.G (.st 1) true (.R (.ld 1 false (.st 0)))) true none,
  .op (.G (.st 2) true (.P (.ln 1 (.st 0)))) true none,
  .op (.G (.st 3) true (.P (.cmi .leq (.st 0) (.k (.int .i64 6))))) true none,
  .op (.P (.pick (.st 4) (.st 0) (.k (.bool false)))) true none,
  .op (.P (.mv (.st 0))) false (some r12)])
 (.seq (.reg [.op (.P (.cmi .eql (.sl r1) (.k (.int .i64 7)))) true none,
  .op (.P (.mv (.st 0))) false (some r11)])
 (.cond (.sl r11) (.reg [.op (.P (.fa 2 (.sl r0))) true none,
  .op (.R (.ld 1 false (.st 0))) true none,
  .op (.P (.ln 1 (.st 0))) true none,
  .op (.P (.cmi .gtr (.st 0) (.k (.int .i64 0)))) true none,
  .el,
  .op (.G (.st 0) true (.P (.fa 1 (.sl r0)))) true none,
  .op (.G (.st 1) true (.R (.ld 1 false (.st 0)))) true none,
  .op (.G (.st 2) true (.P (.cms .eql (.st 0) (.k (.str 0 0))))) true none,
  .op (.P (.pick (.st 3) (.st 0) (.k (.bool false)))) true none,
  .op (.P (.mv (.st 0))) false (some r12)])
 (.seq (.seq (.reg [.op (.P (.cmi .eql (.sl r1) (.k (.int .i64 8)))) true none,
  .op (.P (.mv (.st 0))) false (some r3)])
 (.cond (.sl r3) (.skip)
 (.reg [.op (.P (.cmi .eql (.sl r1) (.k (.int .i64 9)))) true none,
  .op (.P (.mv (.st 0))) false (some r3)])))
 (.cond (.sl r3) (.reg [.op (.P (.fa 2 (.sl r0))) true none,
  .op (.R (.ld 1 false (.st 0))) true none,
  .op (.P (.ln 1 (.st 0))) true none,
  .op (.P (.cmi .eql (.st 0) (.k (.int .i64 1)))) true none,
  .el,
  .op (.G (.st 0) true (.P (.fa 1 (.sl r0)))) true none,
  .op (.G (.st 1) true (.R (.ld 1 false (.st 0)))) true none,
  .op (.G (.st 2) true (.P (.cms .eql (.st 0) (.k (.str 0 0))))) true none,
  .op (.P (.pick (.st 3) (.st 0) (.k (.bool false)))) true none,
  .op (.P (.mv (.st 0))) false (some r12)])
 (.reg [.op (.P (.fa 2 (.sl r0))) true none,
  .op (.R (.ld 1 false (.st 0))) true none,
  .op (.P (.ln 1 (.st 0))) true none,
  .op (.P (.cmi .eql (.st 0) (.k (.int .i64 0)))) true none,
  .el,
  .op (.G (.st 0) true (.P (.fa 1 (.sl r0)))) true none,
  .op (.G (.st 1) true (.R (.ld 1 false (.st 0)))) true none,
  .op (.G (.st 2) true (.P (.cms .eql (.st 0) (.k (.str 0 0))))) true none,
  .op (.P (.pick (.st 3) (.st 0) (.k (.bool false)))) true none,
  .op (.P (.mv (.st 0))) false (some r12)])))))))))))
 (.seq (.seq (.reg [.el,
  .op (.P (.no (.sl r12))) false (some r13)])
 (.cond (.sl r13) (.seq (.reg [.op (.P (.mv (.k (.int .i64 3)))) false (some r14)])
 (.ret))
 (.skip)))
 (.seq (.reg [.op (.P (.fa 2 (.sl r0))) true none,
  .op (.R (.ld 1 false (.st 0))) true none,
  .op (.P (.mkf 144 [] [(.sl r2)])) true none,
  .op (.C (.cf 139 [(.st 1), (.st 0)])) true none,
  .op (.P (.mv (.st 0))) false (some r14)])
 (.ret)))))))
  [.sl (.sl r14)]

def m117 : SlotMap := [(12, r0), (0, r1), (29, r2), (1, r3), (2, r4), (11, r5), (13, r6), (10, r7), (7, r8), (5, r9), (28, r10), (30, r11), (27, r12), (9, r13)]
def c117 : VFn :=
 VFn.mk [some r1, some r3, some r4] (.seq (.reg [.op (.F (.bx 101 (.sl r4))) false (some r9)])
 (.seq (.seq (.reg [.op (.P (.mv (.sl r3))) false (some r7),
  .op (.P (.ln 1 (.sl r7))) false (some r5),
  .op (.P (.mv (.k (.int .i64 0)))) false (some r0)])
 (.block 0 (.loop (.seq (.reg [.op (.P (.cmi .lss (.sl r0) (.sl r5))) false (some r6)])
 (.seq (.cond (.sl r6) (.skip)
 (.exit 0))
 (.seq (.block 1 (.seq (.reg [.op (.P (.ia 1 (.sl r7) (.sl r0))) true none,
  .op (.R (.ld 1 false (.st 0))) true none,
  .op (.P (.mv (.st 0))) false (some r8)])
 (.reg [.el,
  .op (.P (.nn (.sl r1))) true none,
  .op (.P (.fa 1 (.st 0))) true none,
  .op (.R (.ld 1 false (.st 0))) true none,
  .el,
  .op (.R (.lk 1 false (.int .i64 0) (.st 0) (.sl r8))) true none,
  .op (.P (.ar .add (.st 0) (.k (.int .i64 1)))) true none,
  .op (.W (.mu 1 (.st 2) (.sl r8) (.st 0))) false none])))
 (.reg [.op (.P (.ar .add (.sl r0) (.k (.int .i64 1)))) true none,
  .op (.P (.mv (.st 0))) false (some r0)])))))))
 (.seq (.reg [.el,
  .op (.R (.ld 8 true (.sl r9))) true none,
  .op (.C (.cf 76 [(.sl r1), (.st 0)])) false none])
 (.seq (.reg [.op (.P (.mv (.sl r3))) false (some r12),
  .op (.P (.ln 1 (.sl r12))) false (some r10),
  .op (.P (.mv (.k (.int .i64 0)))) false (some r2)])
 (.block 2 (.loop (.seq (.reg [.op (.P (.cmi .lss (.sl r2) (.sl r10))) false (some r11)])
 (.seq (.cond (.sl r11) (.skip)
 (.exit 2))
 (.seq (.block 3 (.seq (.reg [.op (.P (.ia 1 (.sl r12) (.sl r2))) true none,
  .op (.R (.ld 1 false (.st 0))) true none,
  .op (.P (.mv (.st 0))) false (some r13)])
 (.reg [.el,
  .op (.P (.nn (.sl r1))) true none,
  .op (.P (.fa 1 (.st 0))) true none,
  .op (.R (.ld 1 false (.st 0))) true none,
  .el,
  .op (.R (.lk 1 false (.int .i64 0) (.st 0) (.sl r13))) true none,
  .op (.P (.ar .sub (.st 0) (.k (.int .i64 1)))) true none,
  .op (.W (.mu 1 (.st 2) (.sl r13) (.st 0))) false none])))
 (.reg [.op (.P (.ar .add (.sl r2) (.k (.int .i64 1)))) true none,
  .op (.P (.mv (.st 0))) false (some r2)]))))))))))
  []

def m118 : SlotMap := [(1, r0), (18, r1), (7, r2), (3, r3), (0, r4), (8, r5), (13, r6), (17, r7), (19, r8), (16, r9), (5, r10), (2, r11)]
def c118 : VFn :=
 VFn.mk [some r4] (.seq (.reg [.op (.F (.bx 164 (.sl r4))) false (some r0),
  .op (.P (.mv (.k .nils))) false (some r11)])
 (.seq (.seq (.reg [.op (.P (.fa 0 (.sl r0))) true none,
  .op (.R (.ld 1 false (.st 0))) false (some r2)])
 (.block 0 (.seq (.reg [.op (.P (.cmi .eql (.sl r2) (.k (.int .i64 2)))) true none,
  .op (.P (.mv (.st 0))) false (some r5)])
 (.cond (.sl r5) (.seq (.reg [.op (.P (.fa 2 (.sl r0))) true none,
  .op (.R (.ld 1 false (.st 0))) true none,
  .op (.F (.bsl 9 1 1 [(.str 0 0)] [(0, 1, (.st 0))])) true none,
  .op (.P (.mv (.st 0))) false (some r11)])
 (.ret))
 (.seq (.reg [.op (.P (.cmi .eql (.sl r2) (.k (.int .i64 6)))) true none,
  .op (.P (.mv (.st 0))) false (some r6)])
 (.cond (.sl r6) (.seq (.reg [.op (.P (.mv (.k .nils))) false (some r3)])
 (.seq (.seq (.reg [.op (.P (.fa 3 (.sl r0))) true none,
  .op (.R (.ld 1 false (.st 0))) false (some r9),
  .op (.P (.ln 1 (.sl r9))) false (some r7),
  .op (.P (.mv (.k (.int .i64 0)))) false (some r1)])
 (.block 1 (.loop (.seq (.reg [.op (.P (.cmi .lss (.sl r1) (.sl r7))) false (some r8)])
 (.seq (.cond (.sl r8) (.skip)
 (.exit 1))
 (.seq (.block 2 (.seq (.reg [.op (.P (.ia 4 (.sl r9) (.sl r1))) true none,
  .op (.R (.ld 4 true (.st 0))) true none,
  .op (.F (.al 164 [(.int .i64 0), (.int .i64 0), (.str 0 0), .nils])) false (some r10),
  .op (.W (.st 4 (.sl r10) (.st 0))) false none])
 (.reg [.op (.P (.mv (.sl r3))) true none,
  .op (.R (.ld 4 true (.sl r10))) true none,
  .op (.C (.cf 118 [(.st 0)])) true none,
  .op (.W (.app 9 1 (.st 2) (.st 0))) true none,
  .op (.P (.mv (.st 0))) false (some r3)])))
 (.reg [.op (.P (.ar .add (.sl r1) (.k (.int .i64 1)))) true none,
  .op (.P (.mv (.st 0))) false (some r1)])))))))
 (.seq (.reg [.el,
  .op (.P (.mv (.sl r3))) false (some r11)])
 (.ret))))
 (.skip)))))))
 (.seq (.reg [.op (.P (.mv (.k .nils))) false (some r11)])
 (.ret))))
  [.sl (.sl r11)]

def m119 : SlotMap := [(8, r0), (0, r1), (1, r2), (5, r3), (9, r4), (10, r5), (6, r6), (11, r7), (12, r8), (13, r9), (16, r10), (24, r11), (31, r12), (36, r13), (59, r14), (64, r15), (73, r16), (7, r17), (93, r18), (107, r19), (114, r20), (132, r21), (139, r22), (4, r23)]
def c119 : VFn :=
 VFn.mk [some r1, some r2] (.seq (.reg [.op (.P (.mv (.k (.int .i64 0)))) false (some r23)])
 (.seq (.reg [.el,
  .op (.P (.ln 0 (.sl r2))) true none,
  .op (.P (.mv (.st 0))) false (some r3)])
 (.seq (.block 0 (.seq (.reg [.el,
  .op (.P (.cmi .eql (.sl r3) (.k (.int .i64 0)))) true none,
  .el,
  .op (.G (.st 0) false (.P (.mv (.sl r2)))) true none,
  .op (.G (.st 1) false (.P (.mv (.sl r1)))) true none,
  .op (.G (.st 2) false (.P (.cms .eql (.st 1) (.st 0)))) true none,
  .op (.P (.pick (.st 3) (.k (.bool true)) (.st 0))) true none,
  .op (.P (.mv (.st 0))) false (some r10)])
 (.cond (.sl r10) (.seq (.reg [.op (.P (.mv (.k (.int .i64 0)))) false (some r23)])
 (.ret))
 (.seq (.reg [.el,
  .op (.P (.cmi .eql (.sl r3) (.k (.int .i64 1)))) true none,
  .op (.P (.mv (.st 0))) false (some r11)])
 (.cond (.sl r11) (.seq (.reg [.el,
  .el,
  .op (.P (.idxs (.sl r2) (.k (.int .i64 0)))) true none,
  .op (.C (.cf 145 [(.sl r1), (.st 0)])) true none,
  .op (.P (.mv (.st 0))) false (some r23)])
 (.ret))
 (.seq (.reg [.el,
  .el,
  .op (.P (.ln 0 (.sl r1))) true none,
  .op (.P (.cmi .geq (.sl r3) (.st 0))) true none,
  .op (.P (.mv (.st 0))) false (some r12)])
 (.cond (.sl r12) (.seq (.reg [.op (.P (.mv (.k (.int .i64 (-1))))) false (some r23)])
 (.ret))
 (.seq (.reg [.el,
  .op (.R (.ld 1 false (.k (.ptr r0 0)))) true none,
  .op (.P (.cmi .leq (.sl r3) (.st 0))) true none,
  .el,
  .op (.G (.st 0) true (.P (.mv (.sl r1)))) true none,
  .op (.G (.st 1) true (.P (.ln 0 (.st 0)))) true none,
  .op (.G (.st 2) true (.P (.cmi .leq (.st 0) (.k (.int .i64 64))))) true none,
  .op (.P (.pick (.st 3) (.st 0) (.k (.bool false)))) true none,
  .op (.P (.mv (.st 0))) false (some r13)])
 (.cond (.sl r13) (.seq (.reg [.el,
  .el,
  .op (.C (.cf 146 [(.sl r1), (.sl r2)])) true none,
  .op (.P (.mv (.st 0))) false (some r23)])
 (.ret))
 (.skip))))))))))
 (.seq (.reg [.el,
  .op (.P (.idxs (.sl r2) (.k (.int .i64 0)))) true none,
  .op (.P (.mv (.st 0))) false (some r6)])
 (.seq (.reg [.el,
  .op (.P (.idxs (.sl r2) (.k (.int .i64 1)))) true none,
  .op (.P (.mv (.st 0))) false (some r17)])
 (.seq (.reg [.op (.P (.mv (.k (.int .i64 0)))) false (some r0)])
 (.seq (.reg [.el,
  .op (.P (.ln 0 (.sl r1))) true none,
  .el,
  .op (.P (.ar .sub (.st 0) (.sl r3))) true none,
  .op (.P (.ar .add (.st 0) (.k (.int .i64 1)))) true none,
  .op (.P (.mv (.st 0))) false (some r4)])
 (.seq (.reg [.op (.P (.mv (.k (.int .i64 0)))) false (some r5)])
 (.seq (.block 1 (.loop (.seq (.seq (.reg [.el,
  .el,
  .op (.P (.cmi .lss (.sl r0) (.sl r4))) false (some r14)])
 (.cond (.sl r14) (.skip)
 (.exit 1)))
 (.block 2 (.seq (.seq (.reg [.el,
  .el,
  .op (.P (.idxs (.sl r1) (.sl r0))) true none,
  .el,
  .op (.P (.cmi .neq (.st 0) (.sl r6))) false (some r15)])
 (.cond (.sl r15) (.seq (.reg [.el,
  .el,
  .op (.P (.ar .add (.sl r0) (.k (.int .i64 1)))) true none,
  .el,
  .op (.P (.sls (.sl r1) (some (.st 0)) (some (.sl r4)))) true none,
  .el,
  .op (.C (.cf 145 [(.st 0), (.sl r6)])) true none,
  .op (.P (.mv (.st 0))) false (some r7)])
 (.seq (.seq (.reg [.el,
  .op (.P (.cmi .lss (.sl r7) (.k (.int .i64 0)))) false (some r16)])
 (.cond (.sl r16) (.seq (.reg [.op (.P (.mv (.k (.int .i64 (-1))))) false (some r23)])
 (.ret))
 (.skip)))
 (.reg [.op (.P (.mv (.sl r0))) true none,
  .el,
  .op (.P (.ar .add (.sl r7) (.k (.int .i64 1)))) true none,
  .op (.P (.ar .add (.st 1) (.st 0))) true none,
  .op (.P (.mv (.st 0))) false (some r0)])))
 (.skip)))
 (.seq (.seq (.reg [.el,
  .el,
  .op (.P (.ar .add (.sl r0) (.k (.int .i64 1)))) true none,
  .op (.P (.idxs (.sl r1) (.st 0))) true none,
  .el,
  .op (.P (.cmi .eql (.st 0) (.sl r17))) true none,
  .el,
  .op (.G (.st 0) true (.P (.mv (.sl r1)))) true none,
  .op (.G (.st 1) true (.P (.mv (.sl r0)))) true none,
  .op (.G (.st 2) true (.P (.mv (.sl r0)))) true none,
  .op (.G (.st 3) true (.P (.mv (.sl r3)))) true none,
  .op (.G (.st 4) true (.P (.ar .add (.st 1) (.st 0)))) true none,
  .op (.G (.st 5) true (.P (.sls (.st 4) (some (.st 3)) (some (.st 0))))) true none,
  .op (.G (.st 6) true (.P (.mv (.sl r2)))) true none,
  .op (.G (.st 7) true (.P (.cms .eql (.st 1) (.st 0)))) true none,
  .op (.P (.pick (.st 8) (.st 0) (.k (.bool false)))) false (some r18)])
 (.cond (.sl r18) (.seq (.reg [.el,
  .op (.P (.mv (.sl r0))) false (some r23)])
 (.ret))
 (.skip)))
 (.seq (.reg [.op (.P (.mv (.sl r0))) true none,
  .op (.P (.ar .add (.st 0) (.k (.int .i64 1)))) true none,
  .op (.P (.mv (.st 0))) false (some r0)])
 (.seq (.reg [.op (.P (.mv (.sl r5))) true none,
  .op (.P (.ar .add (.st 0) (.k (.int .i64 1)))) true none,
  .op (.P (.mv (.st 0))) false (some r5)])
 (.seq (.reg [.el,
  .op (.R (.ld 1 false (.k (.ptr r0 0)))) true none,
  .op (.P (.cmi .leq (.sl r3) (.st 0))) true none,
  .el,
  .op (.G (.st 0) true (.P (.mv (.sl r5)))) true none,
  .op (.G (.st 1) true (.P (.mv (.sl r0)))) true none,
  .op (.G (.st 2) true (.C (.cf 147 [(.st 0)]))) true none,
  .op (.G (.st 3) true (.P (.cmi .gtr (.st 2) (.st 0)))) true none,
  .op (.P (.pick (.st 4) (.st 0) (.k (.bool false)))) false (some r19)])
 (.cond (.sl r19) (.seq (.reg [.el,
  .el,
  .op (.P (.sls (.sl r1) (some (.sl r0)) none)) true none,
  .el,
  .op (.C (.cf 146 [(.st 0), (.sl r2)])) true none,
  .op (.P (.mv (.st 0))) false (some r8)])
 (.seq (.seq (.reg [.el,
  .op (.P (.cmi .geq (.sl r8) (.k (.int .i64 0)))) false (some r20)])
 (.cond (.sl r20) (.seq (.reg [.el,
  .el,
  .op (.P (.ar .add (.sl r8) (.sl r0))) true none,
  .op (.P (.mv (.st 0))) false (some r23)])
 (.ret))
 (.skip)))
 (.seq (.reg [.op (.P (.mv (.k (.int .i64 (-1))))) false (some r23)])
 (.ret))))
 (.seq (.reg [.el,
  .op (.R (.ld 1 false (.k (.ptr r0 0)))) true none,
  .op (.P (.cmi .gtr (.sl r3) (.st 0))) true none,
  .el,
  .op (.G (.st 0) true (.P (.mv (.sl r5)))) true none,
  .op (.G (.st 1) true (.P (.mv (.sl r0)))) true none,
  .op (.G (.st 2) true (.P (.ar .shr (.st 0) (.k (.int .u64 4))))) true none,
  .op (.G (.st 3) true (.P (.ar .add (.k (.int .i64 4)) (.st 0)))) true none,
  .op (.G (.st 4) true (.P (.cmi .geq (.st 3) (.st 0)))) true none,
  .op (.P (.pick (.st 5) (.st 0) (.k (.bool false)))) true none,
  .el,
  .op (.G (.st 0) true (.P (.mv (.sl r0)))) true none,
  .op (.G (.st 1) true (.P (.mv (.sl r4)))) true none,
  .op (.G (.st 2) true (.P (.cmi .lss (.st 1) (.st 0)))) true none,
  .op (.P (.pick (.st 3) (.st 0) (.k (.bool false)))) false (some r21)])
 (.cond (.sl r21) (.seq (.reg [.el,
  .el,
  .op (.P (.sls (.sl r1) (some (.sl r0)) none)) true none,
  .el,
  .op (.C (.cf 148 [(.st 0), (.sl r2)])) true none,
  .op (.P (.mv (.st 0))) false (some r9)])
 (.seq (.seq (.reg [.el,
  .op (.P (.cmi .lss (.sl r9) (.k (.int .i64 0)))) false (some r22)])
 (.cond (.sl r22) (.seq (.reg [.op (.P (.mv (.k (.int .i64 (-1))))) false (some r23)])
 (.ret))
 (.skip)))
 (.seq (.reg [.el,
  .el,
  .op (.P (.ar .add (.sl r0) (.sl r9))) true none,
  .op (.P (.mv (.st 0))) false (some r23)])
 (.ret))))
 (.skip)))))))))))))
 (.seq (.reg [.op (.P (.mv (.k (.int .i64 (-1))))) false (some r23)])
 (.ret)))))))))))
  [.sl (.sl r23)]

def m120 : SlotMap := [(1, r0), (0, r1), (3, r2), (9, r3), (2, r4)]
def c120 : VFn :=
 VFn.mk [some r1] (.seq (.reg [.op (.F (.bx 139 (.sl r1))) false (some r0),
  .op (.P (.mv (.k .nils))) false (some r4)])
 (.seq (.block 0 (.seq (.reg [.op (.P (.fa 0 (.sl r0))) true none,
  .op (.R (.ld 1 false (.st 0))) true none,
  .op (.P (.cmi .neq (.st 0) (.k (.int .i64 8)))) true none,
  .op (.P (.mv (.st 0))) false (some r2)])
 (.cond (.sl r2) (.seq (.reg [.op (.P (.fa 3 (.sl r0))) true none,
  .op (.R (.ld 1 false (.st 0))) true none,
  .op (.P (.mv (.st 0))) false (some r4)])
 (.ret))
 (.seq (.reg [.op (.P (.fa 4 (.sl r0))) true none,
  .op (.R (.ld 1 false (.st 0))) true none,
  .op (.P (.nn (.st 0))) true none,
  .op (.P (.fa 0 (.st 0))) true none,
  .op (.R (.ld 1 false (.st 0))) true none,
  .op (.P (.mv (.st 0))) false (some r3)])
 (.cond (.sl r3) (.seq (.reg [.op (.P (.mv (.k .nils))) false (some r4)])
 (.ret))
 (.skip))))))
 (.seq (.reg [.op (.P (.fa 4 (.sl r0))) true none,
  .op (.R (.ld 1 false (.st 0))) true none,
  .op (.P (.nn (.st 0))) true none,
  .op (.P (.fa 1 (.st 0))) true none,
  .op (.R (.ld 5 true (.st 0))) true none,
  .op (.F (.bsl 139 5 1 [(.int .i64 0), (.int .i64 0), (.str 0 0), .nils, .nilp] [(0, 5, (.st 0))])) true none,
  .op (.P (.mv (.st 0))) false (some r4)])
 (.ret))))
  [.sl (.sl r4)]

def m121 : SlotMap := [(0, r0), (2, r1)]
def c121 : VFn :=
 VFn.mk [some r0] (.seq (.reg [.op (.P (.mv (.k (.bool false)))) false (some r1)])
 (.seq (.reg [.el,
  .op (.P (.cmi .geq (.sl r0) (.k (.int .u8 65)))) true none,
  .el,
  .op (.G (.st 0) true (.P (.mv (.sl r0)))) true none,
  .op (.G (.st 1) true (.P (.cmi .leq (.st 0) (.k (.int .u8 90))))) true none,
  .op (.P (.pick (.st 2) (.st 0) (.k (.bool false)))) true none,
  .op (.P (.mv (.st 0))) false (some r1)])
 (.ret)))
  [.sl (.sl r1)]

def m122 : SlotMap := [(1, r0), (0, r1), (4, r2)]
def c122 : VFn :=
 VFn.mk [some r1, some r0] (.seq (.reg [.op (.P (.mv (.k (.bool false)))) false (some r2)])
 (.seq (.reg [.el,
  .el,
  .op (.C (.cf 149 [(.sl r1), (.sl r0)])) true none,
  .op (.P (.cmi .geq (.st 0) (.k (.int .i64 0)))) true none,
  .op (.P (.mv (.st 0))) false (some r2)])
 (.ret)))
  [.sl (.sl r2)]

def m123 : SlotMap := [(0, r0)]
def c123 : VFn :=
 VFn.mk [] (.seq (.reg [.op (.P (.mv (.k .nils))) false (some r0)])
 (.seq (.reg [.op (.C (.cf 150 [(.k (.str 186 3257626123454223331479849159745274755599708404538781477306197220032261935487848222403429657019537513146441541284372409734839967813779145796481616026807122511443056405489098220302909113227547393468591695648611185771008757631591742401988185651354813246990840324657302884918609721295841147070922693193568575074573772275378849599869459632878037217053763060611908968460947180320001064321450588350759937555320008506847954249347792054553672428193133650792)), (.k (.str 1 32))])) true none,
  .op (.P (.mv (.st 0))) false (some r0)])
 (.ret)))
  [.sl (.sl r0)]

def m124 : SlotMap := [(0, r0), (9, r1), (12, r2), (5, r3), (4, r4), (7, r5), (10, r6), (17, r7), (21, r8), (33, r9), (2, r10), (3, r11)]
def c124 : VFn :=
 VFn.mk [some r0] (.seq (.reg [.op (.P (.mv (.k (.int .u8 0)))) false (some r10),
  .op (.P (.mv (.k (.int .i64 0)))) false (some r11)])
 (.seq (.seq (.reg [.el,
  .op (.P (.cms .eql (.sl r0) (.k (.str 0 0)))) false (some r5)])
 (.cond (.sl r5) (.seq (.reg [.op (.P (.mv (.k (.int .u8 0)))) false (some r10),
  .op (.P (.mv (.k (.int .i64 0)))) false (some r11)])
 (.ret))
 (.skip)))
 (.seq (.seq (.reg [.el,
  .op (.P (.idxs (.sl r0) (.k (.int .i64 0)))) false (some r1)])
 (.block 0 (.seq (.reg [.op (.P (.cmi .eql (.sl r1) (.k (.int .u8 110)))) true none,
  .op (.P (.mv (.st 0))) false (some r6)])
 (.cond (.sl r6) (.seq (.reg [.op (.P (.mv (.k (.int .u8 10)))) false (some r10),
  .op (.P (.mv (.k (.int .i64 1)))) false (some r11)])
 (.ret))
 (.seq (.seq (.reg [.op (.P (.cmi .eql (.sl r1) (.k (.int .u8 34)))) true none,
  .op (.P (.mv (.st 0))) false (some r2)])
 (.cond (.sl r2) (.skip)
 (.reg [.op (.P (.cmi .eql (.sl r1) (.k (.int .u8 92)))) true none,
  .op (.P (.mv (.st 0))) false (some r2)])))
 (.cond (.sl r2) (.seq (.reg [.el,
  .op (.P (.idxs (.sl r0) (.k (.int .i64 0)))) true none,
  .op (.P (.mv (.st 0))) false (some r10),
  .op (.P (.mv (.k (.int .i64 1)))) false (some r11)])
 (.ret))
 (.seq (.reg [.op (.P (.cmi .eql (.sl r1) (.k (.int .u8 120)))) true none,
  .op (.P (.mv (.st 0))) false (some r7)])
 (.cond (.sl r7) (.seq (.seq (.reg [.el,
  .op (.P (.ln 0 (.sl r0))) true none,
  .op (.P (.cmi .lss (.st 0) (.k (.int .i64 3)))) false (some r8)])
 (.cond (.sl r8) (.seq (.reg [.op (.P (.mv (.k (.int .u8 0)))) false (some r10),
  .op (.P (.mv (.k (.int .i64 0)))) false (some r11)])
 (.ret))
 (.skip)))
 (.seq (.dreg [(.q, .op (.P (.mv (.sl r0))) true none),
  (.q, .op (.P (.idxs (.st 0) (.k (.int .i64 1)))) true none),
  (.h [], .op (.C (.cf 151 [(.st 0)])) true none),
  (.q, .op (.P (.mv (.sl r0))) true none),
  (.q, .op (.P (.idxs (.st 0) (.k (.int .i64 2)))) true none),
  (.h [], .op (.C (.cf 151 [(.st 0)])) true none),
  (.q, .op (.P (.mv (.st 3))) false (some r4)),
  (.q, .op (.P (.mv (.st 0))) false (some r3))])
 (.seq (.reg [.el,
  .op (.P (.cmi .geq (.sl r4) (.k (.int .i64 0)))) true none,
  .el,
  .op (.G (.st 0) true (.P (.mv (.sl r3)))) true none,
  .op (.G (.st 1) true (.P (.cmi .geq (.st 0) (.k (.int .i64 0))))) true none,
  .op (.P (.pick (.st 2) (.st 0) (.k (.bool false)))) false (some r9)])
 (.cond (.sl r9) (.seq (.reg [.el,
  .op (.P (.ar .mul (.k (.int .i64 16)) (.sl r4))) true none,
  .el,
  .op (.P (.ar .add (.st 0) (.sl r3))) true none,
  .op (.P (.cvi .u8 (.st 0))) true none,
  .op (.P (.mv (.st 0))) false (some r10),
  .op (.P (.mv (.k (.int .i64 3)))) false (some r11)])
 (.ret))
 (.skip)))))
 (.skip)))))))))
 (.seq (.reg [.op (.P (.mv (.k (.int .u8 0)))) false (some r10),
  .op (.P (.mv (.k (.int .i64 0)))) false (some r11)])
 (.ret)))))
  [.sl (.sl r10), .sl (.sl r11)]

def m125 : SlotMap := [(1, r0), (0, r1), (4, r2)]
def c125 : VFn :=
 VFn.mk [some r1, some r0] (.seq (.reg [.op (.P (.mv (.k (.bool false)))) false (some r2)])
 (.seq (.reg [.el,
  .el,
  .op (.C (.cf 80 [(.sl r1), (.sl r0)])) true none,
  .op (.P (.cmi .geq (.st 0) (.k (.int .i64 0)))) true none,
  .op (.P (.mv (.st 0))) false (some r2)])
 (.ret)))
  [.sl (.sl r2)]

def m126 : SlotMap := [(0, r0), (1, r1), (5, r2), (4, r3)]
def c126 : VFn :=
 VFn.mk [some r0, some r1] (.seq (.reg [.op (.P (.mv (.k (.bool false)))) false (some r3)])
 (.seq (.reg [.el,
  .op (.C (.cf 92 [(.sl r0)])) true none,
  .op (.F (.al 182 [(.int .i64 0), (.str 0 0), (.int .i64 0)])) false (some r2),
  .op (.W (.st 3 (.sl r2) (.st 0))) false none])
 (.seq (.reg [.op (.P (.fa 1 (.sl r2))) true none,
  .op (.R (.ld 1 false (.st 0))) true none,
  .el,
  .op (.P (.cms .eql (.st 0) (.sl r1))) true none,
  .el,
  .op (.G (.st 0) true (.P (.fa 0 (.sl r2)))) true none,
  .op (.G (.st 1) true (.R (.ld 1 false (.st 0)))) true none,
  .op (.G (.st 2) true (.P (.cmi .eql (.st 0) (.k (.int .i64 3))))) true none,
  .op (.G (.st 3) true (.P (.mv (.st 0)))) true none,
  .op (.G (.st 0) false (.P (.fa 0 (.sl r2)))) true none,
  .op (.G (.st 1) false (.R (.ld 1 false (.st 0)))) true none,
  .op (.G (.st 2) false (.P (.cmi .eql (.st 0) (.k (.int .i64 6))))) true none,
  .op (.G (.st 7) true (.P (.pick (.st 3) (.k (.bool true)) (.st 0)))) true none,
  .op (.P (.pick (.st 8) (.st 0) (.k (.bool false)))) true none,
  .op (.P (.mv (.st 0))) false (some r3)])
 (.ret))))
  [.sl (.sl r3)]

def m127 : SlotMap := [(0, r0), (12, r1), (2, r2)]
def c127 : VFn :=
 VFn.mk [some r0] (.seq (.reg [.op (.P (.mv (.k (.int .i64 0)))) false (some r2)])
 (.seq (.seq (.dreg [(.q, .op (.P (.mv (.sl r0))) true none),
  (.q, .op (.P (.nn (.st 0))) true none),
  (.q, .op (.P (.fa 1 (.st 0))) true none),
  (.r 0 0, .op (.R (.ld 1 false (.st 0))) true none),
  (.q, .op (.P (.mv (.sl r0))) true none),
  (.q, .op (.P (.nn (.st 0))) true none),
  (.q, .op (.P (.fa 0 (.st 0))) true none),
  (.r 0 0, .op (.R (.ld 1 false (.st 0))) true none),
  (.q, .op (.P (.ln 1 (.st 0))) true none),
  (.q, .op (.P (.cmi .lss (.st 5) (.st 0))) false (some r1))])
 (.cond (.sl r1) (.seq (.dreg [(.q, .op (.P (.mv (.sl r0))) true none),
  (.q, .op (.P (.nn (.st 0))) true none),
  (.q, .op (.P (.fa 0 (.st 0))) true none),
  (.r 0 0, .op (.R (.ld 1 false (.st 0))) true none),
  (.q, .op (.P (.mv (.sl r0))) true none),
  (.q, .op (.P (.nn (.st 0))) true none),
  (.q, .op (.P (.fa 1 (.st 0))) true none),
  (.r 0 0, .op (.R (.ld 1 false (.st 0))) true none),
  (.q, .op (.P (.ia 3 (.st 4) (.st 0))) true none),
  (.q, .op (.P (.fa 2 (.st 0))) true none),
  (.r 0 0, .op (.R (.ld 1 false (.st 0))) true none),
  (.q, .op (.P (.mv (.st 0))) false (some r2))])
 (.ret))
 (.skip)))
 (.seq (.reg [.el,
  .op (.P (.nn (.sl r0))) true none,
  .op (.P (.fa 2 (.st 0))) true none,
  .op (.R (.ld 1 false (.st 0))) true none,
  .op (.P (.mv (.st 0))) false (some r2)])
 (.ret))))
  [.sl (.sl r2)]

def m128 : SlotMap := [(0, r0), (10, r1), (2, r2), (7, r3), (9, r4), (8, r5), (16, r6), (11, r7), (13, r8), (17, r9), (21, r10), (1, r11), (38, r12), (41, r13), (52, r14), (62, r15), (69, r16), (6, r17)]
def c128 : VFn :=
 VFn.mk [some r0, some r11, some r2] (.seq (.reg [.op (.P (.mv (.k (.int .i64 0)))) false (some r17),
  .op (.P (.mv (.k .nili))) false (some r3)])
 (.seq (.seq (.reg [.el,
  .op (.P (.cms .eql (.sl r0) (.k (.str 0 0)))) false (some r8)])
 (.cond (.sl r8) (.seq (.reg [.op (.P (.ifc 270 (.k (.int .i64 2)))) true none,
  .op (.P (.mv (.k (.int .i64 0)))) false (some r17),
  .op (.P (.mv (.st 0))) false (some r3)])
 (.ret))
 (.skip)))
 (.seq (.reg [.op (.P (.mv (.k (.bool false)))) false (some r5)])
 (.seq (.seq (.reg [.el,
  .op (.P (.idxs (.sl r0) (.k (.int .i64 0)))) false (some r6)])
 (.block 0 (.seq (.reg [.op (.P (.cmi .eql (.sl r6) (.k (.int .u8 43)))) true none,
  .op (.P (.mv (.st 0))) false (some r9)])
 (.cond (.sl r9) (.reg [.op (.P (.mv (.sl r0))) true none,
  .op (.P (.sls (.st 0) (some (.k (.int .i64 1))) none)) true none,
  .op (.P (.mv (.st 0))) false (some r0)])
 (.seq (.reg [.op (.P (.cmi .eql (.sl r6) (.k (.int .u8 45)))) true none,
  .op (.P (.mv (.st 0))) false (some r10)])
 (.cond (.sl r10) (.seq (.reg [.op (.P (.mv (.sl r0))) true none,
  .op (.P (.sls (.st 0) (some (.k (.int .i64 1))) none)) true none,
  .op (.P (.mv (.st 0))) false (some r0)])
 (.reg [.op (.P (.mv (.k (.bool true)))) false (some r5)]))
 (.skip)))))))
 (.seq (.reg [.op (.P (.mv (.k (.int .u64 0)))) false (some r4)])
 (.seq (.reg [.el,
  .el,
  .el,
  .op (.C (.cf 152 [(.sl r0), (.sl r11), (.sl r2)])) true none,
  .el,
  .op (.P (.ext 0 (.st 0))) true none,
  .op (.P (.ext 1 (.st 1))) true none,
  .op (.P (.mv (.st 1))) false (some r4),
  .op (.P (.mv (.st 0))) false (some r3)])
 (.seq (.seq (.reg [.el,
  .op (.P (.cmn 0 true (.sl r3))) true none,
  .el,
  .op (.G (.st 0) true (.P (.mv (.sl r3)))) true none,
  .op (.G (.st 1) true (.P (.ifc 270 (.k (.int .i64 1))))) true none,
  .op (.G (.st 2) true (.P (.cmf true (.st 1) (.st 0)))) true none,
  .op (.P (.pick (.st 3) (.st 0) (.k (.bool false)))) false (some r12)])
 (.cond (.sl r12) (.seq (.reg [.op (.P (.mv (.sl r3))) true none,
  .op (.P (.mv (.k (.int .i64 0)))) false (some r17),
  .op (.P (.mv (.st 0))) false (some r3)])
 (.ret))
 (.skip)))
 (.seq (.seq (.reg [.el,
  .op (.P (.cmi .eql (.sl r2) (.k (.int .i64 0)))) false (some r13)])
 (.cond (.sl r13) (.reg [.op (.P (.mv (.k (.int .i64 64)))) false (some r2)])
 (.skip)))
 (.seq (.reg [.el,
  .op (.P (.ar .sub (.sl r2) (.k (.int .i64 1)))) true none,
  .op (.P (.cvi .u64 (.st 0))) true none,
  .op (.P (.ar .shl (.k (.int .u64 1)) (.st 0))) true none,
  .op (.P (.mv (.st 0))) false (some r1)])
 (.seq (.seq (.reg [.el,
  .op (.P (.no (.sl r5))) true none,
  .el,
  .op (.G (.st 0) true (.P (.mv (.sl r4)))) true none,
  .op (.G (.st 1) true (.P (.mv (.sl r1)))) true none,
  .op (.G (.st 2) true (.P (.cmi .geq (.st 1) (.st 0)))) true none,
  .op (.P (.pick (.st 3) (.st 0) (.k (.bool false)))) false (some r14)])
 (.cond (.sl r14) (.seq (.reg [.el,
  .op (.P (.ar .sub (.sl r1) (.k (.int .u64 1)))) true none,
  .op (.P (.cvi .i64 (.st 0))) true none,
  .op (.P (.ifc 270 (.k (.int .i64 1)))) true none,
  .op (.P (.mv (.st 1))) false (some r17),
  .op (.P (.mv (.st 0))) false (some r3)])
 (.ret))
 (.skip)))
 (.seq (.seq (.reg [.el,
  .el,
  .op (.G (.sl r5) true (.P (.mv (.sl r4)))) true none,
  .op (.G (.sl r5) true (.P (.mv (.sl r1)))) true none,
  .op (.G (.sl r5) true (.P (.cmi .gtr (.st 1) (.st 0)))) true none,
  .op (.P (.pick (.sl r5) (.st 0) (.k (.bool false)))) false (some r15)])
 (.cond (.sl r15) (.seq (.reg [.el,
  .op (.P (.cvi .i64 (.sl r1))) true none,
  .op (.P (.ng (.st 0))) true none,
  .op (.P (.ifc 270 (.k (.int .i64 1)))) true none,
  .op (.P (.mv (.st 1))) false (some r17),
  .op (.P (.mv (.st 0))) false (some r3)])
 (.ret))
 (.skip)))
 (.seq (.reg [.el,
  .op (.P (.cvi .i64 (.sl r4))) true none,
  .op (.P (.mv (.st 0))) false (some r7)])
 (.seq (.seq (.reg [.op (.P (.mv (.sl r5))) false (some r16)])
 (.cond (.sl r16) (.reg [.op (.P (.mv (.sl r7))) true none,
  .op (.P (.ng (.st 0))) true none,
  .op (.P (.mv (.st 0))) false (some r7)])
 (.skip)))
 (.seq (.reg [.el,
  .op (.P (.mv (.sl r7))) false (some r17),
  .op (.P (.mv (.k .nili))) false (some r3)])
 (.ret)))))))))))))))
  [.sl (.sl r17), .sl (.sl r3)]

def m129 : SlotMap := [(11, r0), (1, r1), (0, r2), (4, r3), (12, r4), (19, r5), (26, r6), (2, r7), (34, r8), (3, r9), (10, r10)]
def c129 : VFn :=
 VFn.mk [some r2, some r1, some r7, some r9, some r3] (.seq (.reg [.op (.P (.mv (.k .nili))) false (some r10)])
 (.seq (.seq (.reg [.op (.P (.mv (.sl r3))) false (some r0)])
 (.block 0 (.seq (.reg [.op (.P (.ifc 270 (.k (.int .i64 2)))) true none,
  .op (.P (.cmf false (.sl r0) (.st 0))) true none,
  .op (.P (.mv (.st 0))) false (some r4)])
 (.cond (.sl r4) (.seq (.reg [.el,
  .el,
  .op (.C (.cf 153 [(.sl r2), (.sl r1)])) true none,
  .op (.P (.ifc 274 (.st 0))) true none,
  .op (.P (.mv (.st 0))) false (some r10)])
 (.ret))
 (.seq (.reg [.op (.P (.ifc 270 (.k (.int .i64 1)))) true none,
  .op (.P (.cmf false (.sl r0) (.st 0))) true none,
  .op (.P (.mv (.st 0))) false (some r5)])
 (.cond (.sl r5) (.seq (.reg [.el,
  .el,
  .op (.C (.cf 154 [(.sl r2), (.sl r1)])) true none,
  .op (.P (.ifc 274 (.st 0))) true none,
  .op (.P (.mv (.st 0))) false (some r10)])
 (.ret))
 (.seq (.reg [.op (.P (.ifc 270 (.k (.int .i64 3)))) true none,
  .op (.P (.cmf false (.sl r0) (.st 0))) true none,
  .op (.P (.mv (.st 0))) false (some r6)])
 (.cond (.sl r6) (.seq (.reg [.el,
  .el,
  .el,
  .op (.C (.cf 155 [(.sl r2), (.sl r1), (.sl r7)])) true none,
  .op (.P (.ifc 274 (.st 0))) true none,
  .op (.P (.mv (.st 0))) false (some r10)])
 (.ret))
 (.seq (.reg [.op (.P (.ifc 270 (.k (.int .i64 4)))) true none,
  .op (.P (.cmf false (.sl r0) (.st 0))) true none,
  .op (.P (.mv (.st 0))) false (some r8)])
 (.cond (.sl r8) (.seq (.reg [.el,
  .el,
  .el,
  .op (.C (.cf 156 [(.sl r2), (.sl r1), (.sl r9)])) true none,
  .op (.P (.ifc 274 (.st 0))) true none,
  .op (.P (.mv (.st 0))) false (some r10)])
 (.ret))
 (.skip)))))))))))
 (.seq (.reg [.el,
  .op (.P (.mv (.sl r3))) false (some r10)])
 (.ret))))
  [.sl (.sl r10)]

def m130 : SlotMap := [(0, r0), (3, r1), (13, r2), (2, r3)]
def c130 : VFn :=
 VFn.mk [some r0] (.seq (.reg [.op (.P (.mv (.k (.str 0 0)))) false (some r3)])
 (.seq (.seq (.reg [.el,
  .op (.C (.cf 92 [(.sl r0)])) true none,
  .op (.F (.al 182 [(.int .i64 0), (.str 0 0), (.int .i64 0)])) false (some r1),
  .op (.W (.st 3 (.sl r1) (.st 0))) false none])
 (.seq (.reg [.op (.P (.fa 1 (.sl r1))) true none,
  .op (.R (.ld 1 false (.st 0))) true none,
  .op (.P (.cms .eql (.st 0) (.k (.str 3 5399910)))) true none,
  .el,
  .op (.G (.st 0) false (.P (.fa 1 (.sl r1)))) true none,
  .op (.G (.st 1) false (.R (.ld 1 false (.st 0)))) true none,
  .op (.G (.st 2) false (.P (.cms .eql (.st 0) (.k (.str 4 1130720364))))) true none,
  .op (.P (.pick (.st 3) (.k (.bool true)) (.st 0))) false (some r2)])
 (.cond (.sl r2) (.reg [.el,
  .op (.C (.cf 90 [(.sl r0)])) false none])
 (.skip))))
 (.seq (.reg [.el,
  .op (.C (.cf 95 [(.sl r0)])) true none,
  .op (.P (.mv (.st 0))) false (some r3)])
 (.ret))))
  [.sl (.sl r3)]

def m131 : SlotMap := [(0, r0), (6, r1), (3, r2), (2, r3)]
def c131 : VFn :=
 VFn.mk [some r0] (.seq (.reg [.op (.P (.mv (.k .nils))) false (some r3)])
 (.seq (.seq (.reg [.el,
  .op (.C (.cf 89 [(.sl r0), (.k (.str 1 91))])) true none,
  .op (.P (.no (.st 0))) false (some r1)])
 (.cond (.sl r1) (.seq (.reg [.op (.P (.mv (.k .nils))) false (some r3)])
 (.ret))
 (.skip)))
 (.seq (.reg [.el,
  .el,
  .op (.P (.mkf 59 [(.sl r0)] [])) true none,
  .op (.C (.cf 157 [(.sl r0), (.st 0)])) true none,
  .op (.P (.mv (.st 0))) false (some r2)])
 (.seq (.reg [.el,
  .op (.F (.bsl 9 1 1 [(.str 0 0)] [(0, 1, (.k (.str 1 93)))])) true none,
  .op (.C (.cf 58 [(.sl r0), (.st 0)])) false none])
 (.seq (.reg [.el,
  .op (.P (.mv (.sl r2))) false (some r3)])
 (.ret))))))
  [.sl (.sl r3)]

def m132 : SlotMap := [(0, r0), (8, r1), (1, r2), (5, r3), (4, r4)]
def c132 : VFn :=
 VFn.mk [some r0, some r2] (.seq (.reg [.op (.P (.mv (.k .nils))) false (some r4)])
 (.seq (.seq (.reg [.el,
  .op (.C (.cf 89 [(.sl r0), (.k (.str 1 40))])) true none,
  .op (.P (.no (.st 0))) false (some r1)])
 (.cond (.sl r1) (.seq (.reg [.op (.P (.mv (.k .nils))) false (some r4)])
 (.ret))
 (.skip)))
 (.seq (.reg [.el,
  .el,
  .op (.C (.cf 158 [(.sl r0), (.sl r2)])) true none,
  .op (.P (.mv (.st 0))) false (some r3)])
 (.seq (.reg [.el,
  .op (.F (.bsl 9 1 1 [(.str 0 0)] [(0, 1, (.k (.str 1 41)))])) true none,
  .op (.C (.cf 58 [(.sl r0), (.st 0)])) false none])
 (.seq (.reg [.el,
  .op (.P (.mv (.sl r3))) false (some r4)])
 (.ret))))))
  [.sl (.sl r4)]

def m133 : SlotMap := [(0, r0), (10, r1), (1, r2), (5, r3), (4, r4)]
def c133 : VFn :=
 VFn.mk [some r0, some r2] (.seq (.reg [.op (.P (.mv (.k .nils))) false (some r4)])
 (.seq (.reg [.el,
  .op (.F (.bsl 9 1 1 [(.str 0 0)] [(0, 1, (.k (.str 1 40)))])) true none,
  .op (.C (.cf 58 [(.sl r0), (.st 0)])) false none])
 (.seq (.seq (.reg [.el,
  .op (.C (.cf 89 [(.sl r0), (.k (.str 1 41))])) false (some r1)])
 (.cond (.sl r1) (.seq (.reg [.op (.P (.mv (.k .nils))) false (some r4)])
 (.ret))
 (.skip)))
 (.seq (.reg [.el,
  .el,
  .op (.C (.cf 159 [(.sl r0), (.sl r2)])) true none,
  .op (.P (.mv (.st 0))) false (some r3)])
 (.seq (.reg [.el,
  .op (.F (.bsl 9 1 1 [(.str 0 0)] [(0, 1, (.k (.str 1 41)))])) true none,
  .op (.C (.cf 58 [(.sl r0), (.st 0)])) false none])
 (.seq (.reg [.el,
  .op (.P (.mv (.sl r3))) false (some r4)])
 (.ret)))))))
  [.sl (.sl r4)]

def m134 : SlotMap := [(0, r0), (1, r1), (2, r2)]
def c134 : VFn :=
 VFn.mk [some r0] (.seq (.reg [.op (.F (.al 258 [(.str 0 0), (.int .i64 0), (.str 0 0), .nils])) false (some r1)])
 (.seq (.reg [.op (.R (.ld 1 false (.sl r0))) true none,
  .op (.C (.cf 59 [(.st 0)])) true none,
  .op (.P (.mv (.st 0))) false (some r2)])
 (.seq (.reg [.op (.R (.ld 1 false (.sl r0))) true none,
  .op (.F (.bsl 9 1 1 [(.str 0 0)] [(0, 1, (.k (.str 1 58)))])) true none,
  .op (.C (.cf 58 [(.st 1), (.st 0)])) false none])
 (.seq (.reg [.el,
  .op (.R (.ld 1 false (.sl r0))) true none,
  .op (.C (.cf 102 [(.st 0)])) true none,
  .op (.P (.bld [(.str 0 0), (.int .i64 0), (.str 0 0), .nils] [(0, 1, (.sl r2)), (1, 3, (.st 0))])) true none,
  .op (.W (.st 4 (.sl r1) (.st 0))) false none])
 (.ret)))))
  [.cell (.sl r1) 4 true]

def m135 : SlotMap := [(0, r0), (10, r1), (1, r2), (5, r3), (4, r4)]
def c135 : VFn :=
 VFn.mk [some r0, some r2] (.seq (.reg [.op (.P (.mv (.k .nils))) false (some r4)])
 (.seq (.reg [.el,
  .op (.F (.bsl 9 1 1 [(.str 0 0)] [(0, 1, (.k (.str 1 40)))])) true none,
  .op (.C (.cf 58 [(.sl r0), (.st 0)])) false none])
 (.seq (.seq (.reg [.el,
  .op (.C (.cf 89 [(.sl r0), (.k (.str 1 41))])) false (some r1)])
 (.cond (.sl r1) (.seq (.reg [.op (.P (.mv (.k .nils))) false (some r4)])
 (.ret))
 (.skip)))
 (.seq (.reg [.el,
  .el,
  .op (.C (.cf 158 [(.sl r0), (.sl r2)])) true none,
  .op (.P (.mv (.st 0))) false (some r3)])
 (.seq (.reg [.el,
  .op (.F (.bsl 9 1 1 [(.str 0 0)] [(0, 1, (.k (.str 1 41)))])) true none,
  .op (.C (.cf 58 [(.sl r0), (.st 0)])) false none])
 (.seq (.reg [.el,
  .op (.P (.mv (.sl r3))) false (some r4)])
 (.ret)))))))
  [.sl (.sl r4)]

def m136 : SlotMap := [(0, r0), (2, r1), (7, r2), (3, r3), (8, r4), (13, r5), (25, r6), (35, r7), (46, r8), (62, r9), (64, r10), (70, r11), (75, r12)]
def c136 : VFn :=
 VFn.mk [some r0] (.seq (.reg [.op (.F (.al 101 [(.int .i64 0), (.int .i64 0), (.str 0 0), .nils, .nils, .nils, .nils, (.int .i64 0)])) false (some r1)])
 (.seq (.reg [.el,
  .op (.C (.cf 92 [(.sl r0)])) true none,
  .op (.F (.al 182 [(.int .i64 0), (.str 0 0), (.int .i64 0)])) false (some r3),
  .op (.W (.st 3 (.sl r3) (.st 0))) false none])
 (.seq (.seq (.reg [.op (.P (.fa 0 (.sl r3))) true none,
  .op (.R (.ld 1 false (.st 0))) false (some r2)])
 (.block 0 (.seq (.reg [.op (.P (.cmi .eql (.sl r2) (.k (.int .i64 4)))) true none,
  .op (.P (.mv (.st 0))) false (some r4)])
 (.cond (.sl r4) (.seq (.reg [.el,
  .op (.C (.cf 60 [(.sl r0), (.k (.bool false))])) true none,
  .op (.P (.bld [(.int .i64 0), (.int .i64 0), (.str 0 0), .nils, .nils, .nils, .nils, (.int .i64 0)] [(0, 1, (.k (.int .i64 2))), (1, 1, (.st 0))])) true none,
  .op (.W (.st 8 (.sl r1) (.st 0))) false none])
 (.ret))
 (.seq (.reg [.op (.P (.cmi .eql (.sl r2) (.k (.int .i64 5)))) true none,
  .op (.P (.mv (.st 0))) false (some r5)])
 (.cond (.sl r5) (.seq (.reg [.el,
  .op (.P (.nn (.sl r0))) true none,
  .op (.P (.fa 1 (.st 0))) true none,
  .op (.R (.ld 1 false (.st 0))) true none,
  .op (.P (.ar .add (.st 0) (.k (.int .i64 1)))) true none,
  .op (.P (.nn (.sl r0))) true none,
  .op (.P (.fa 1 (.st 0))) true none,
  .op (.W (.st 1 (.st 0) (.st 2))) false none])
 (.seq (.reg [.op (.P (.fa 1 (.sl r3))) true none,
  .op (.R (.ld 1 false (.st 0))) true none,
  .op (.P (.bld [(.int .i64 0), (.int .i64 0), (.str 0 0), .nils, .nils, .nils, .nils, (.int .i64 0)] [(0, 1, (.k (.int .i64 4))), (2, 1, (.st 0))])) true none,
  .op (.W (.st 8 (.sl r1) (.st 0))) false none])
 (.ret)))
 (.seq (.reg [.op (.P (.cmi .eql (.sl r2) (.k (.int .i64 1)))) true none,
  .op (.P (.mv (.st 0))) false (some r6)])
 (.cond (.sl r6) (.seq (.reg [.el,
  .op (.P (.nn (.sl r0))) true none,
  .op (.P (.fa 1 (.st 0))) true none,
  .op (.R (.ld 1 false (.st 0))) true none,
  .op (.P (.ar .add (.st 0) (.k (.int .i64 1)))) true none,
  .op (.P (.nn (.sl r0))) true none,
  .op (.P (.fa 1 (.st 0))) true none,
  .op (.W (.st 1 (.st 0) (.st 2))) false none])
 (.seq (.seq (.reg [.el,
  .op (.C (.cf 126 [(.sl r0), (.k (.str 1 40))])) false (some r7)])
 (.cond (.sl r7) (.seq (.dreg [(.q, .op (.P (.fa 1 (.sl r3))) true none),
  (.r 0 1, .op (.R (.ld 1 false (.st 0))) true none),
  (.q, .op (.P (.mv (.sl r0))) true none),
  (.q, .op (.P (.mv (.sl r0))) true none),
  (.q, .op (.P (.mkf 103 [(.st 0)] [])) true none),
  (.h [], .op (.C (.cf 160 [(.st 2), (.st 0)])) true none),
  (.q, .op (.P (.bld [(.int .i64 0), (.int .i64 0), (.str 0 0), .nils, .nils, .nils, .nils, (.int .i64 0)] [(0, 1, (.k (.int .i64 9))), (2, 1, (.st 4)), (5, 1, (.st 0))])) true none),
  (.h [], .op (.W (.st 8 (.sl r1) (.st 0))) false none)])
 (.ret))
 (.skip)))
 (.seq (.reg [.op (.P (.fa 1 (.sl r3))) true none,
  .op (.R (.ld 1 false (.st 0))) true none,
  .op (.P (.bld [(.int .i64 0), (.int .i64 0), (.str 0 0), .nils, .nils, .nils, .nils, (.int .i64 0)] [(0, 1, (.k (.int .i64 5))), (2, 1, (.st 0))])) true none,
  .op (.W (.st 8 (.sl r1) (.st 0))) false none])
 (.ret))))
 (.seq (.reg [.op (.P (.cmi .eql (.sl r2) (.k (.int .i64 2)))) true none,
  .op (.P (.mv (.st 0))) false (some r8)])
 (.cond (.sl r8) (.seq (.reg [.el,
  .op (.P (.nn (.sl r0))) true none,
  .op (.P (.fa 1 (.st 0))) true none,
  .op (.R (.ld 1 false (.st 0))) true none,
  .op (.P (.ar .add (.st 0) (.k (.int .i64 1)))) true none,
  .op (.P (.nn (.sl r0))) true none,
  .op (.P (.fa 1 (.st 0))) true none,
  .op (.W (.st 1 (.st 0) (.st 2))) false none])
 (.seq (.dreg [(.q, .op (.P (.fa 1 (.sl r3))) true none),
  (.r 0 1, .op (.R (.ld 1 false (.st 0))) true none),
  (.q, .op (.P (.mv (.sl r0))) true none),
  (.q, .op (.P (.mv (.sl r0))) true none),
  (.q, .op (.P (.mkf 103 [(.st 0)] [])) true none),
  (.h [], .op (.C (.cf 161 [(.st 2), (.st 0)])) true none),
  (.q, .op (.P (.bld [(.int .i64 0), (.int .i64 0), (.str 0 0), .nils, .nils, .nils, .nils, (.int .i64 0)] [(0, 1, (.k (.int .i64 12))), (2, 1, (.st 4)), (5, 1, (.st 0))])) true none),
  (.h [], .op (.W (.st 8 (.sl r1) (.st 0))) false none)])
 (.ret)))
 (.seq (.reg [.op (.P (.cmi .eql (.sl r2) (.k (.int .i64 6)))) true none,
  .op (.P (.mv (.st 0))) false (some r9)])
 (.cond (.sl r9) (.block 1 (.seq (.reg [.el,
  .op (.C (.cf 126 [(.sl r0), (.k (.str 1 45))])) true none,
  .op (.P (.mv (.st 0))) false (some r10)])
 (.cond (.sl r10) (.seq (.reg [.el,
  .op (.C (.cf 60 [(.sl r0), (.k (.bool true))])) true none,
  .op (.P (.bld [(.int .i64 0), (.int .i64 0), (.str 0 0), .nils, .nils, .nils, .nils, (.int .i64 0)] [(0, 1, (.k (.int .i64 2))), (1, 1, (.st 0))])) true none,
  .op (.W (.st 8 (.sl r1) (.st 0))) false none])
 (.ret))
 (.seq (.reg [.el,
  .op (.C (.cf 89 [(.sl r0), (.k (.str 1 40))])) true none,
  .op (.P (.mv (.st 0))) false (some r11)])
 (.cond (.sl r11) (.seq (.reg [.el,
  .op (.C (.cf 162 [(.sl r0)])) true none,
  .op (.W (.st 8 (.sl r1) (.st 0))) false none])
 (.ret))
 (.skip))))))
 (.seq (.reg [.op (.P (.cmi .eql (.sl r2) (.k (.int .i64 3)))) true none,
  .op (.P (.mv (.st 0))) false (some r12)])
 (.cond (.sl r12) (.seq (.reg [.el,
  .op (.C (.cf 163 [(.sl r0)])) true none,
  .op (.W (.st 8 (.sl r1) (.st 0))) false none])
 (.ret))
 (.skip)))))))))))))))
 (.seq (.reg [.el,
  .op (.C (.cf 90 [(.sl r0)])) false none])
 (.seq (.reg [.op (.P (.bld [(.int .i64 0), (.int .i64 0), (.str 0 0), .nils, .nils, .nils, .nils, (.int .i64 0)] [])) true none,
  .op (.W (.st 8 (.sl r1) (.st 0))) false none])
 (.ret))))))
  [.cell (.sl r1) 8 true]

def m137 : SlotMap := [(10, r0), (7, r1), (0, r2), (9, r3), (11, r4), (8, r5), (6, r6), (1, r7), (18, r8), (4, r9)]
def c137 : VFn :=
 VFn.mk [some r2, some r7] (.seq (.reg [.op (.P (.mv (.k (.int .i64 0)))) false (some r9)])
 (.seq (.seq (.reg [.op (.P (.mv (.sl r2))) false (some r5),
  .op (.P (.ln 1 (.sl r5))) false (some r3),
  .op (.P (.mv (.k (.int .i64 0)))) false (some r0)])
 (.block 0 (.loop (.seq (.reg [.op (.P (.cmi .lss (.sl r0) (.sl r3))) false (some r4)])
 (.seq (.cond (.sl r4) (.skip)
 (.exit 0))
 (.seq (.block 1 (.seq (.reg [.op (.P (.ia 1 (.sl r5) (.sl r0))) true none,
  .op (.R (.ld 1 false (.st 0))) true none,
  .op (.P (.mv (.st 0))) false (some r6)])
 (.seq (.reg [.el,
  .el,
  .op (.C (.cv (.sl r7) [(.sl r6)])) true none,
  .op (.P (.mv (.st 0))) false (some r1)])
 (.seq (.reg [.el,
  .op (.P (.cmi .neq (.sl r1) (.k (.int .i64 0)))) false (some r8)])
 (.cond (.sl r8) (.seq (.reg [.el,
  .op (.P (.mv (.sl r1))) false (some r9)])
 (.ret))
 (.skip))))))
 (.reg [.op (.P (.ar .add (.sl r0) (.k (.int .i64 1)))) true none,
  .op (.P (.mv (.st 0))) false (some r0)])))))))
 (.seq (.reg [.op (.P (.mv (.k (.int .i64 0)))) false (some r9)])
 (.ret))))
  [.sl (.sl r9)]

def m138 : SlotMap := [(0, r0), (2, r1)]
def c138 : VFn :=
 VFn.mk [some r0] (.seq (.reg [.op (.P (.mv (.k (.int .i64 0)))) false (some r1)])
 (.seq (.reg [.el,
  .op (.C (.cf 62 [(.sl r0)])) true none,
  .op (.P (.no (.st 0))) true none,
  .op (.C (.cf 106 [(.st 0), (.k (.int .i64 3))])) true none,
  .op (.P (.mv (.st 0))) false (some r1)])
 (.ret)))
  [.sl (.sl r1)]

def m139 : SlotMap := [(10, r0), (7, r1), (0, r2), (9, r3), (11, r4), (8, r5), (6, r6), (1, r7), (18, r8), (4, r9)]
def c139 : VFn :=
 VFn.mk [some r2, some r7] (.seq (.reg [.op (.P (.mv (.k (.int .i64 0)))) false (some r9)])
 (.seq (.seq (.reg [.op (.P (.mv (.sl r2))) false (some r5),
  .op (.P (.ln 1 (.sl r5))) false (some r3),
  .op (.P (.mv (.k (.int .i64 0)))) false (some r0)])
 (.block 0 (.loop (.seq (.reg [.op (.P (.cmi .lss (.sl r0) (.sl r3))) false (some r4)])
 (.seq (.cond (.sl r4) (.skip)
 (.exit 0))
 (.seq (.block 1 (.seq (.reg [.op (.P (.ia 3 (.sl r5) (.sl r0))) true none,
  .op (.R (.ld 3 true (.st 0))) true none,
  .op (.F (.al 97 [(.int .i64 0), (.str 0 0), .nils])) false (some r6),
  .op (.W (.st 3 (.sl r6) (.st 0))) false none])
 (.seq (.reg [.el,
  .op (.R (.ld 3 true (.sl r6))) true none,
  .op (.C (.cv (.sl r7) [(.st 0)])) true none,
  .op (.P (.mv (.st 0))) false (some r1)])
 (.seq (.reg [.el,
  .op (.P (.cmi .neq (.sl r1) (.k (.int .i64 0)))) false (some r8)])
 (.cond (.sl r8) (.seq (.reg [.el,
  .op (.P (.mv (.sl r1))) false (some r9)])
 (.ret))
 (.skip))))))
 (.reg [.op (.P (.ar .add (.sl r0) (.k (.int .i64 1)))) true none,
  .op (.P (.mv (.st 0))) false (some r0)])))))))
 (.seq (.reg [.op (.P (.mv (.k (.int .i64 0)))) false (some r9)])
 (.ret))))
  [.sl (.sl r9)]

def m140 : SlotMap := [(0, r0), (1, r1), (2, r2)]
def c140 : VFn :=
 VFn.mk [some r0] (.seq (.reg [.op (.F (.bx 97 (.sl r0))) false (some r1),
  .op (.P (.mv (.k (.int .i64 0)))) false (some r2)])
 (.seq (.reg [.op (.R (.ld 3 true (.sl r1))) true none,
  .op (.C (.cf 116 [(.st 0), (.k (.int .i64 1))])) true none,
  .op (.P (.mv (.st 0))) false (some r2)])
 (.ret)))
  [.sl (.sl r2)]

def m141 : SlotMap := [(11, r0), (3, r1), (23, r2), (1, r3), (0, r4), (10, r5), (12, r6), (9, r7), (5, r8), (22, r9), (24, r10), (21, r11), (7, r12), (2, r13)]
def c141 : VFn :=
 VFn.mk [some r4] (.seq (.reg [.op (.F (.bx 101 (.sl r4))) false (some r3),
  .op (.P (.mv (.k (.int .i64 0)))) false (some r13)])
 (.seq (.reg [.op (.P (.mv (.k (.int .i64 1)))) false (some r1)])
 (.seq (.seq (.reg [.op (.P (.fa 5 (.sl r3))) true none,
  .op (.R (.ld 1 false (.st 0))) false (some r7),
  .op (.P (.ln 1 (.sl r7))) false (some r5),
  .op (.P (.mv (.k (.int .i64 0)))) false (some r0)])
 (.block 0 (.loop (.seq (.reg [.op (.P (.cmi .lss (.sl r0) (.sl r5))) false (some r6)])
 (.seq (.cond (.sl r6) (.skip)
 (.exit 0))
 (.seq (.block 1 (.seq (.reg [.op (.P (.ia 8 (.sl r7) (.sl r0))) true none,
  .op (.R (.ld 8 true (.st 0))) true none,
  .op (.F (.al 101 [(.int .i64 0), (.int .i64 0), (.str 0 0), .nils, .nils, .nils, .nils, (.int .i64 0)])) false (some r8),
  .op (.W (.st 8 (.sl r8) (.st 0))) false none])
 (.reg [.op (.P (.mv (.sl r1))) true none,
  .op (.R (.ld 8 true (.sl r8))) true none,
  .op (.C (.cf 141 [(.st 0)])) true none,
  .op (.P (.ar .add (.st 2) (.st 0))) true none,
  .op (.P (.mv (.st 0))) false (some r1)])))
 (.reg [.op (.P (.ar .add (.sl r0) (.k (.int .i64 1)))) true none,
  .op (.P (.mv (.st 0))) false (some r0)])))))))
 (.seq (.seq (.reg [.op (.P (.fa 6 (.sl r3))) true none,
  .op (.R (.ld 1 false (.st 0))) false (some r11),
  .op (.P (.ln 1 (.sl r11))) false (some r9),
  .op (.P (.mv (.k (.int .i64 0)))) false (some r2)])
 (.block 2 (.loop (.seq (.reg [.op (.P (.cmi .lss (.sl r2) (.sl r9))) false (some r10)])
 (.seq (.cond (.sl r10) (.skip)
 (.exit 2))
 (.seq (.block 3 (.seq (.reg [.op (.P (.ia 12 (.sl r11) (.sl r2))) true none,
  .op (.R (.ld 12 true (.st 0))) true none,
  .op (.F (.al 166 [(.int .i64 0), (.int .i64 0), (.str 0 0), .nils, (.int .i64 0), (.int .i64 0), (.str 0 0), .nils, .nils, .nils, .nils, (.int .i64 0)])) false (some r12),
  .op (.W (.st 12 (.sl r12) (.st 0))) false none])
 (.dreg [(.q, .op (.P (.mv (.sl r1))) true none),
  (.q, .op (.P (.fa 0 (.sl r12))) true none),
  (.r 0 0, .op (.R (.ld 4 true (.st 0))) true none),
  (.h [], .op (.C (.cf 164 [(.st 0)])) true none),
  (.q, .op (.P (.fa 4 (.sl r12))) true none),
  (.r 0 1, .op (.R (.ld 8 true (.st 0))) true none),
  (.h [], .op (.C (.cf 141 [(.st 0)])) true none),
  (.q, .op (.P (.ar .add (.st 3) (.st 0))) true none),
  (.q, .op (.P (.ar .add (.st 7) (.st 0))) true none),
  (.q, .op (.P (.mv (.st 0))) false (some r1))])))
 (.reg [.op (.P (.ar .add (.sl r2) (.k (.int .i64 1)))) true none,
  .op (.P (.mv (.st 0))) false (some r2)])))))))
 (.seq (.reg [.el,
  .op (.P (.mv (.sl r1))) false (some r13)])
 (.ret))))))
  [.sl (.sl r13)]

def m142 : SlotMap := [(11, r0), (3, r1), (23, r2), (1, r3), (0, r4), (10, r5), (12, r6), (9, r7), (5, r8), (22, r9), (24, r10), (21, r11), (7, r12), (2, r13)]
def c142 : VFn :=
 VFn.mk [some r4] (.seq (.reg [.op (.F (.bx 101 (.sl r4))) false (some r3),
  .op (.P (.mv (.k (.int .i64 0)))) false (some r13)])
 (.seq (.reg [.op (.P (.mv (.k (.int .i64 0)))) false (some r1)])
 (.seq (.seq (.reg [.op (.P (.fa 5 (.sl r3))) true none,
  .op (.R (.ld 1 false (.st 0))) false (some r7),
  .op (.P (.ln 1 (.sl r7))) false (some r5),
  .op (.P (.mv (.k (.int .i64 0)))) false (some r0)])
 (.block 0 (.loop (.seq (.reg [.op (.P (.cmi .lss (.sl r0) (.sl r5))) false (some r6)])
 (.seq (.cond (.sl r6) (.skip)
 (.exit 0))
 (.seq (.block 1 (.seq (.reg [.op (.P (.ia 8 (.sl r7) (.sl r0))) true none,
  .op (.R (.ld 8 true (.st 0))) true none,
  .op (.F (.al 101 [(.int .i64 0), (.int .i64 0), (.str 0 0), .nils, .nils, .nils, .nils, (.int .i64 0)])) false (some r8),
  .op (.W (.st 8 (.sl r8) (.st 0))) false none])
 (.reg [.op (.P (.mv (.sl r1))) true none,
  .op (.R (.ld 8 true (.sl r8))) true none,
  .op (.C (.cf 142 [(.st 0)])) true none,
  .op (.P (.mx false [(.st 2), (.st 0)])) true none,
  .op (.P (.mv (.st 0))) false (some r1)])))
 (.reg [.op (.P (.ar .add (.sl r0) (.k (.int .i64 1)))) true none,
  .op (.P (.mv (.st 0))) false (some r0)])))))))
 (.seq (.seq (.reg [.op (.P (.fa 6 (.sl r3))) true none,
  .op (.R (.ld 1 false (.st 0))) false (some r11),
  .op (.P (.ln 1 (.sl r11))) false (some r9),
  .op (.P (.mv (.k (.int .i64 0)))) false (some r2)])
 (.block 2 (.loop (.seq (.reg [.op (.P (.cmi .lss (.sl r2) (.sl r9))) false (some r10)])
 (.seq (.cond (.sl r10) (.skip)
 (.exit 2))
 (.seq (.block 3 (.seq (.reg [.op (.P (.ia 12 (.sl r11) (.sl r2))) true none,
  .op (.R (.ld 12 true (.st 0))) true none,
  .op (.F (.al 166 [(.int .i64 0), (.int .i64 0), (.str 0 0), .nils, (.int .i64 0), (.int .i64 0), (.str 0 0), .nils, .nils, .nils, .nils, (.int .i64 0)])) false (some r12),
  .op (.W (.st 12 (.sl r12) (.st 0))) false none])
 (.dreg [(.q, .op (.P (.mv (.sl r1))) true none),
  (.q, .op (.P (.fa 0 (.sl r12))) true none),
  (.r 0 0, .op (.R (.ld 4 true (.st 0))) true none),
  (.h [], .op (.C (.cf 165 [(.st 0)])) true none),
  (.q, .op (.P (.fa 4 (.sl r12))) true none),
  (.r 0 1, .op (.R (.ld 8 true (.st 0))) true none),
  (.h [], .op (.C (.cf 142 [(.st 0)])) true none),
  (.q, .op (.P (.mx false [(.st 6), (.st 3), (.st 0)])) true none),
  (.q, .op (.P (.mv (.st 0))) false (some r1))])))
 (.reg [.op (.P (.ar .add (.sl r2) (.k (.int .i64 1)))) true none,
  .op (.P (.mv (.st 0))) false (some r2)])))))))
 (.seq (.reg [.el,
  .op (.P (.ar .add (.sl r1) (.k (.int .i64 1)))) true none,
  .op (.P (.mv (.st 0))) false (some r13)])
 (.ret))))))
  [.sl (.sl r13)]

def m143 : SlotMap := [(2, r0), (3, r1), (5, r2), (6, r3), (1, r4), (0, r5), (9, r6), (11, r7), (23, r8), (26, r9), (33, r10), (43, r11), (50, r12), (4, r13)]
def c143 : VFn :=
 VFn.mk [some r5, some r4] (.seq (.reg [.op (.F (.bx 101 (.sl r5))) false (some r0),
  .op (.F (.bx 4 (.sl r4))) false (some r1),
  .op (.P (.mv (.k (.int .i64 0)))) false (some r13)])
 (.seq (.seq (.reg [.op (.R (.ld 8 true (.sl r0))) true none,
  .op (.C (.cf 45 [(.st 0)])) true none,
  .op (.P (.cmi .lss (.st 0) (.k (.int .i64 0)))) false (some r6)])
 (.cond (.sl r6) (.seq (.reg [.op (.P (.mv (.k (.int .i64 3)))) false (some r13)])
 (.ret))
 (.skip)))
 (.seq (.seq (.reg [.op (.R (.ld 8 true (.sl r0))) true none,
  .op (.C (.cf 166 [(.st 0)])) false (some r7)])
 (.cond (.sl r7) (.seq (.reg [.op (.P (.mv (.k (.int .i64 2)))) false (some r13)])
 (.ret))
 (.skip)))
 (.seq (.seq (.reg [.op (.R (.ld 8 true (.sl r0))) true none,
  .op (.C (.cf 167 [(.st 0)])) true none,
  .op (.P (.no (.st 0))) true none,
  .el,
  .op (.G (.st 0) false (.P (.fa 0 (.sl r0)))) true none,
  .op (.G (.st 1) false (.R (.ld 1 false (.st 0)))) true none,
  .op (.G (.st 2) false (.P (.cmi .eql (.st 0) (.k (.int .i64 17))))) true none,
  .op (.G (.st 3) false (.P (.mv (.st 0)))) true none,
  .op (.G (.st 0) true (.R (.ld 1 false (.sl r1)))) true none,
  .op (.G (.st 1) true (.P (.no (.st 0)))) true none,
  .op (.G (.st 6) false (.P (.pick (.st 2) (.st 0) (.k (.bool false))))) true none,
  .op (.P (.pick (.st 7) (.k (.bool true)) (.st 0))) false (some r8)])
 (.cond (.sl r8) (.seq (.reg [.op (.P (.mv (.k (.int .i64 3)))) false (some r13)])
 (.ret))
 (.skip)))
 (.seq (.seq (.reg [.op (.P (.fa 0 (.sl r0))) true none,
  .op (.R (.ld 1 false (.st 0))) true none,
  .op (.P (.cmi .eql (.st 0) (.k (.int .i64 10)))) false (some r9)])
 (.cond (.sl r9) (.seq (.seq (.reg [.op (.P (.fa 3 (.sl r0))) true none,
  .op (.R (.ld 1 false (.st 0))) true none,
  .op (.P (.ln 1 (.st 0))) true none,
  .op (.P (.fa 4 (.sl r0))) true none,
  .op (.R (.ld 1 false (.st 0))) true none,
  .op (.P (.ln 1 (.st 0))) true none,
  .op (.P (.cmi .neq (.st 3) (.st 0))) false (some r10)])
 (.cond (.sl r10) (.seq (.reg [.op (.P (.mv (.k (.int .i64 3)))) false (some r13)])
 (.ret))
 (.skip)))
 (.seq (.seq (.dreg [(.q, .op (.P (.fa 3 (.sl r0))) true none),
  (.r 0 0, .op (.R (.ld 1 false (.st 0))) true none),
  (.h [], .op (.C (.cf 109 [(.st 0)])) true none),
  (.q, .op (.P (.fa 4 (.sl r0))) true none),
  (.r 0 1, .op (.R (.ld 1 false (.st 0))) true none),
  (.h [], .op (.C (.cf 112 [(.st 0)])) true none),
  (.f, .op (.F (.bsl 59 1 2 [(.int .i64 0), (.int .i64 0)] [(0, 1, (.st 3)), (1, 1, (.st 0))])) true none),
  (.h [6], .op (.C (.cf 108 [(.st 0)])) true none),
  (.q, .op (.P (.mv (.st 0))) false (some r2))])
 (.seq (.reg [.el,
  .op (.P (.cmi .neq (.sl r2) (.k (.int .i64 0)))) false (some r11)])
 (.cond (.sl r11) (.seq (.reg [.el,
  .op (.P (.mv (.sl r2))) false (some r13)])
 (.ret))
 (.skip))))
 (.reg [.op (.W (.st 1 (.sl r1) (.k (.bool false)))) false none])))
 (.skip)))
 (.seq (.seq (.reg [.op (.P (.fa 5 (.sl r0))) true none,
  .op (.R (.ld 1 false (.st 0))) true none,
  .op (.P (.mkf 169 [] [(.sl r1)])) true none,
  .op (.C (.cf 168 [(.st 1), (.st 0)])) true none,
  .op (.P (.mv (.st 0))) false (some r3)])
 (.seq (.reg [.el,
  .op (.P (.cmi .neq (.sl r3) (.k (.int .i64 0)))) false (some r12)])
 (.cond (.sl r12) (.seq (.reg [.el,
  .op (.P (.mv (.sl r3))) false (some r13)])
 (.ret))
 (.skip))))
 (.seq (.reg [.op (.P (.fa 6 (.sl r0))) true none,
  .op (.R (.ld 1 false (.st 0))) true none,
  .op (.P (.mkf 171 [] [(.sl r1)])) true none,
  .op (.C (.cf 170 [(.st 1), (.st 0)])) true none,
  .op (.P (.mv (.st 0))) false (some r13)])
 (.ret))))))))
  [.sl (.sl r13)]

def m144 : SlotMap := [(0, r0), (1, r1), (2, r2), (3, r3)]
def c144 : VFn :=
 VFn.mk [some r0, some r1] (.seq (.reg [.op (.F (.bx 97 (.sl r0))) false (some r2),
  .op (.P (.mv (.k (.int .i64 0)))) false (some r3)])
 (.seq (.reg [.op (.R (.ld 3 true (.sl r2))) true none,
  .op (.R (.ld 1 false (.sl r1))) true none,
  .op (.P (.ar .add (.st 0) (.k (.int .i64 1)))) true none,
  .op (.C (.cf 116 [(.st 2), (.st 0)])) true none,
  .op (.P (.mv (.st 0))) false (some r3)])
 (.ret)))
  [.sl (.sl r3)]

def m145 : SlotMap := [(1, r0), (0, r1), (4, r2)]
def c145 : VFn :=
 VFn.mk [some r1, some r0] (.seq (.reg [.op (.P (.mv (.k (.int .i64 0)))) false (some r2)])
 (.seq (.reg [.el,
  .el,
  .op (.C (.cf 173 [(.sl r1), (.sl r0)])) true none,
  .op (.P (.mv (.st 0))) false (some r2)])
 (.ret)))
  [.sl (.sl r2)]

def m147 : SlotMap := [(0, r0), (2, r1)]
def c147 : VFn :=
 VFn.mk [some r0] (.seq (.reg [.op (.P (.mv (.k (.int .i64 0)))) false (some r1)])
 (.seq (.reg [.el,
  .op (.P (.ar .add (.sl r0) (.k (.int .i64 16)))) true none,
  .op (.P (.ar .quo (.st 0) (.k (.int .i64 8)))) true none,
  .op (.P (.mv (.st 0))) false (some r1)])
 (.ret)))
  [.sl (.sl r1)]

def m148 : SlotMap := [(7, r0), (0, r1), (8, r2), (10, r3), (1, r4), (9, r5), (5, r6), (20, r7), (39, r8), (44, r9), (6, r10), (77, r11), (4, r12)]
def c148 : VFn :=
 VFn.mk [some r1, some r4] (.seq (.reg [.op (.P (.mv (.k (.int .i64 0)))) false (some r12)])
 (.seq (.reg [.el,
  .op (.C (.cf 174 [(.sl r4)])) true none,
  .el,
  .op (.P (.ext 0 (.st 0))) true none,
  .op (.P (.ext 1 (.st 1))) true none,
  .op (.P (.mv (.st 1))) false (some r6),
  .op (.P (.mv (.st 0))) false (some r10)])
 (.seq (.reg [.el,
  .op (.P (.ln 0 (.sl r4))) true none,
  .op (.P (.mv (.st 0))) false (some r0)])
 (.seq (.reg [.op (.P (.mv (.k (.int .u32 0)))) false (some r2)])
 (.seq (.seq (.reg [.op (.P (.mv (.k (.int .i64 0)))) false (some r5)])
 (.block 0 (.loop (.seq (.seq (.reg [.el,
  .el,
  .op (.P (.cmi .lss (.sl r5) (.sl r0))) false (some r7)])
 (.cond (.sl r7) (.skip)
 (.exit 0)))
 (.seq (.block 1 (.reg [.op (.P (.mv (.sl r2))) true none,
  .op (.P (.ar .mul (.st 0) (.k (.int .u32 16777619)))) true none,
  .el,
  .el,
  .op (.P (.idxs (.sl r1) (.sl r5))) true none,
  .op (.P (.cvi .u32 (.st 0))) true none,
  .op (.P (.ar .add (.st 2) (.st 0))) true none,
  .op (.P (.mv (.st 0))) false (some r2)]))
 (.reg [.op (.P (.mv (.sl r5))) true none,
  .op (.P (.ar .add (.st 0) (.k (.int .i64 1)))) true none,
  .op (.P (.mv (.st 0))) false (some r5)]))))))
 (.seq (.seq (.reg [.el,
  .el,
  .op (.P (.cmi .eql (.sl r2) (.sl r6))) true none,
  .el,
  .op (.G (.st 0) true (.P (.mv (.sl r1)))) true none,
  .op (.G (.st 1) true (.P (.mv (.sl r0)))) true none,
  .op (.G (.st 2) true (.P (.sls (.st 1) none (some (.st 0))))) true none,
  .op (.G (.st 3) true (.P (.mv (.sl r4)))) true none,
  .op (.G (.st 4) true (.P (.cms .eql (.st 1) (.st 0)))) true none,
  .op (.P (.pick (.st 5) (.st 0) (.k (.bool false)))) false (some r8)])
 (.cond (.sl r8) (.seq (.reg [.op (.P (.mv (.k (.int .i64 0)))) false (some r12)])
 (.ret))
 (.skip)))
 (.seq (.seq (.reg [.el,
  .op (.P (.mv (.sl r0))) false (some r3)])
 (.block 2 (.loop (.seq (.seq (.reg [.el,
  .el,
  .op (.P (.ln 0 (.sl r1))) true none,
  .op (.P (.cmi .lss (.sl r3) (.st 0))) false (some r9)])
 (.cond (.sl r9) (.skip)
 (.exit 2)))
 (.block 3 (.seq (.reg [.op (.P (.mv (.sl r2))) true none,
  .op (.P (.ar .mul (.st 0) (.k (.int .u32 16777619)))) true none,
  .op (.P (.mv (.st 0))) false (some r2)])
 (.seq (.reg [.op (.P (.mv (.sl r2))) true none,
  .el,
  .el,
  .op (.P (.idxs (.sl r1) (.sl r3))) true none,
  .op (.P (.cvi .u32 (.st 0))) true none,
  .op (.P (.ar .add (.st 2) (.st 0))) true none,
  .op (.P (.mv (.st 0))) false (some r2)])
 (.seq (.reg [.op (.P (.mv (.sl r2))) true none,
  .el,
  .el,
  .el,
  .el,
  .op (.P (.ar .sub (.sl r3) (.sl r0))) true none,
  .op (.P (.idxs (.sl r1) (.st 0))) true none,
  .op (.P (.cvi .u32 (.st 0))) true none,
  .op (.P (.ar .mul (.sl r10) (.st 0))) true none,
  .op (.P (.ar .sub (.st 4) (.st 0))) true none,
  .op (.P (.mv (.st 0))) false (some r2)])
 (.seq (.reg [.op (.P (.mv (.sl r3))) true none,
  .op (.P (.ar .add (.st 0) (.k (.int .i64 1)))) true none,
  .op (.P (.mv (.st 0))) false (some r3)])
 (.seq (.reg [.el,
  .el,
  .op (.P (.cmi .eql (.sl r2) (.sl r6))) true none,
  .el,
  .op (.G (.st 0) true (.P (.mv (.sl r1)))) true none,
  .op (.G (.st 1) true (.P (.mv (.sl r3)))) true none,
  .op (.G (.st 2) true (.P (.mv (.sl r0)))) true none,
  .op (.G (.st 3) true (.P (.ar .sub (.st 1) (.st 0)))) true none,
  .op (.G (.st 4) true (.P (.mv (.sl r3)))) true none,
  .op (.G (.st 5) true (.P (.sls (.st 4) (some (.st 1)) (some (.st 0))))) true none,
  .op (.G (.st 6) true (.P (.mv (.sl r4)))) true none,
  .op (.G (.st 7) true (.P (.cms .eql (.st 1) (.st 0)))) true none,
  .op (.P (.pick (.st 8) (.st 0) (.k (.bool false)))) false (some r11)])
 (.cond (.sl r11) (.seq (.reg [.el,
  .el,
  .op (.P (.ar .sub (.sl r3) (.sl r0))) true none,
  .op (.P (.mv (.st 0))) false (some r12)])
 (.ret))
 (.skip))))))))))))
 (.seq (.reg [.op (.P (.mv (.k (.int .i64 (-1))))) false (some r12)])
 (.ret)))))))))
  [.sl (.sl r12)]

def m149 : SlotMap := [(8, r0), (0, r1), (5, r2), (7, r3), (9, r4), (1, r5), (16, r6), (4, r7)]
def c149 : VFn :=
 VFn.mk [some r1, some r5] (.seq (.reg [.op (.P (.mv (.k (.int .i64 0)))) false (some r7)])
 (.seq (.seq (.reg [.el,
  .op (.P (.ln 1 (.sl r1))) false (some r3),
  .op (.P (.mv (.k (.int .i64 0)))) false (some r0)])
 (.block 0 (.loop (.seq (.reg [.op (.P (.cmi .lss (.sl r0) (.sl r3))) false (some r4)])
 (.seq (.cond (.sl r4) (.skip)
 (.exit 0))
 (.seq (.block 1 (.seq (.reg [.el,
  .op (.P (.mv (.sl r0))) false (some r2)])
 (.seq (.reg [.el,
  .el,
  .el,
  .op (.P (.ia 1 (.sl r1) (.sl r2))) true none,
  .op (.R (.ld 1 false (.st 0))) true none,
  .op (.P (.cms .eql (.sl r5) (.st 0))) false (some r6)])
 (.cond (.sl r6) (.seq (.reg [.el,
  .op (.P (.mv (.sl r2))) false (some r7)])
 (.ret))
 (.skip)))))
 (.reg [.op (.P (.ar .add (.sl r0) (.k (.int .i64 1)))) true none,
  .op (.P (.mv (.st 0))) false (some r0)])))))))
 (.seq (.reg [.op (.P (.mv (.k (.int .i64 (-1))))) false (some r7)])
 (.ret))))
  [.sl (.sl r7)]

def m150 : SlotMap := [(1, r0), (0, r1), (4, r2)]
def c150 : VFn :=
 VFn.mk [some r1, some r0] (.seq (.reg [.op (.P (.mv (.k .nils))) false (some r2)])
 (.seq (.reg [.el,
  .el,
  .op (.C (.cf 175 [(.sl r1), (.sl r0), (.k (.int .i64 0)), (.k (.int .i64 (-1)))])) true none,
  .op (.P (.mv (.st 0))) false (some r2)])
 (.ret)))
  [.sl (.sl r2)]

def m151 : SlotMap := [(0, r0), (2, r1)]
def c151 : VFn :=
 VFn.mk [some r0] (.seq (.reg [.op (.P (.mv (.k (.int .i64 0)))) false (some r1)])
 (.seq (.reg [.el,
  .op (.C (.cf 176 [(.k (.str 16 64058384521018188869745042196707698022)), (.sl r0)])) true none,
  .op (.P (.mv (.st 0))) false (some r1)])
 (.ret)))
  [.sl (.sl r1)]

def m152 : SlotMap := [(0, r0), (1, r1), (15, r2), (13, r3), (2, r4), (101, r5), (11, r6), (85, r7), (16, r8), (17, r9), (19, r10), (25, r11), (32, r12), (37, r13), (40, r14), (52, r15), (64, r16), (77, r17), (83, r18), (90, r19), (92, r20), (100, r21), (102, r22), (99, r23), (8, r24), (106, r25), (112, r26), (121, r27), (137, r28), (10, r29), (141, r30), (159, r31), (9, r32), (12, r33), (169, r34), (6, r35), (7, r36)]
def c152 : VFn :=
 VFn.mk [some r0, some r1, some r4] (.seq (.reg [.op (.P (.mv (.k (.int .u64 0)))) false (some r35),
  .op (.P (.mv (.k .nili))) false (some r36)])
 (.seq (.seq (.reg [.el,
  .op (.P (.cms .eql (.sl r0) (.k (.str 0 0)))) false (some r10)])
 (.cond (.sl r10) (.seq (.reg [.op (.P (.ifc 270 (.k (.int .i64 2)))) true none,
  .op (.P (.mv (.k (.int .u64 0)))) false (some r35),
  .op (.P (.mv (.st 0))) false (some r36)])
 (.ret))
 (.skip)))
 (.seq (.reg [.el,
  .op (.P (.cmi .eql (.sl r1) (.k (.int .i64 0)))) true none,
  .op (.P (.mv (.st 0))) false (some r24)])
 (.seq (.reg [.el,
  .op (.P (.mv (.sl r0))) false (some r32)])
 (.seq (.block 0 (.seq (.reg [.el,
  .op (.P (.cmi .leq (.k (.int .i64 2)) (.sl r1))) true none,
  .el,
  .op (.G (.st 0) true (.P (.mv (.sl r1)))) true none,
  .op (.G (.st 1) true (.P (.cmi .leq (.st 0) (.k (.int .i64 36))))) true none,
  .op (.P (.pick (.st 2) (.st 0) (.k (.bool false)))) true none,
  .op (.P (.mv (.st 0))) false (some r11)])
 (.cond (.sl r11) (.skip)
 (.seq (.reg [.el,
  .op (.P (.cmi .eql (.sl r1) (.k (.int .i64 0)))) true none,
  .op (.P (.mv (.st 0))) false (some r12)])
 (.cond (.sl r12) (.seq (.reg [.op (.P (.mv (.k (.int .i64 10)))) false (some r1)])
 (.seq (.reg [.el,
  .op (.P (.idxs (.sl r0) (.k (.int .i64 0)))) true none,
  .op (.P (.cmi .eql (.st 0) (.k (.int .u8 48)))) false (some r13)])
 (.cond (.sl r13) (.block 1 (.seq (.reg [.el,
  .op (.P (.ln 0 (.sl r0))) true none,
  .op (.P (.cmi .geq (.st 0) (.k (.int .i64 3)))) true none,
  .el,
  .op (.G (.st 0) true (.P (.mv (.sl r0)))) true none,
  .op (.G (.st 1) true (.P (.idxs (.st 0) (.k (.int .i64 1))))) true none,
  .op (.G (.st 2) true (.C (.cf 177 [(.st 0)]))) true none,
  .op (.G (.st 3) true (.P (.cmi .eql (.st 0) (.k (.int .u8 98))))) true none,
  .op (.P (.pick (.st 4) (.st 0) (.k (.bool false)))) true none,
  .op (.P (.mv (.st 0))) false (some r14)])
 (.cond (.sl r14) (.seq (.reg [.op (.P (.mv (.k (.int .i64 2)))) false (some r1)])
 (.reg [.op (.P (.mv (.sl r0))) true none,
  .op (.P (.sls (.st 0) (some (.k (.int .i64 2))) none)) true none,
  .op (.P (.mv (.st 0))) false (some r0)]))
 (.seq (.reg [.el,
  .op (.P (.ln 0 (.sl r0))) true none,
  .op (.P (.cmi .geq (.st 0) (.k (.int .i64 3)))) true none,
  .el,
  .op (.G (.st 0) true (.P (.mv (.sl r0)))) true none,
  .op (.G (.st 1) true (.P (.idxs (.st 0) (.k (.int .i64 1))))) true none,
  .op (.G (.st 2) true (.C (.cf 177 [(.st 0)]))) true none,
  .op (.G (.st 3) true (.P (.cmi .eql (.st 0) (.k (.int .u8 111))))) true none,
  .op (.P (.pick (.st 4) (.st 0) (.k (.bool false)))) true none,
  .op (.P (.mv (.st 0))) false (some r15)])
 (.cond (.sl r15) (.seq (.reg [.op (.P (.mv (.k (.int .i64 8)))) false (some r1)])
 (.reg [.op (.P (.mv (.sl r0))) true none,
  .op (.P (.sls (.st 0) (some (.k (.int .i64 2))) none)) true none,
  .op (.P (.mv (.st 0))) false (some r0)]))
 (.seq (.reg [.el,
  .op (.P (.ln 0 (.sl r0))) true none,
  .op (.P (.cmi .geq (.st 0) (.k (.int .i64 3)))) true none,
  .el,
  .op (.G (.st 0) true (.P (.mv (.sl r0)))) true none,
  .op (.G (.st 1) true (.P (.idxs (.st 0) (.k (.int .i64 1))))) true none,
  .op (.G (.st 2) true (.C (.cf 177 [(.st 0)]))) true none,
  .op (.G (.st 3) true (.P (.cmi .eql (.st 0) (.k (.int .u8 120))))) true none,
  .op (.P (.pick (.st 4) (.st 0) (.k (.bool false)))) true none,
  .op (.P (.mv (.st 0))) false (some r16)])
 (.cond (.sl r16) (.seq (.reg [.op (.P (.mv (.k (.int .i64 16)))) false (some r1)])
 (.reg [.op (.P (.mv (.sl r0))) true none,
  .op (.P (.sls (.st 0) (some (.k (.int .i64 2))) none)) true none,
  .op (.P (.mv (.st 0))) false (some r0)]))
 (.seq (.reg [.op (.P (.mv (.k (.int .i64 8)))) false (some r1)])
 (.reg [.op (.P (.mv (.sl r0))) true none,
  .op (.P (.sls (.st 0) (some (.k (.int .i64 1))) none)) true none,
  .op (.P (.mv (.st 0))) false (some r0)])))))))))
 (.skip))))
 (.seq (.reg [.op (.P (.ifc 270 (.k (.int .i64 3)))) true none,
  .op (.P (.mv (.k (.int .u64 0)))) false (some r35),
  .op (.P (.mv (.st 0))) false (some r36)])
 (.ret)))))))
 (.seq (.seq (.reg [.el,
  .op (.P (.cmi .eql (.sl r4) (.k (.int .i64 0)))) false (some r17)])
 (.cond (.sl r17) (.reg [.op (.P (.mv (.k (.int .i64 64)))) false (some r4)])
 (.seq (.reg [.el,
  .op (.P (.cmi .lss (.sl r4) (.k (.int .i64 0)))) true none,
  .el,
  .op (.G (.st 0) false (.P (.mv (.sl r4)))) true none,
  .op (.G (.st 1) false (.P (.cmi .gtr (.st 0) (.k (.int .i64 64))))) true none,
  .op (.P (.pick (.st 2) (.k (.bool true)) (.st 0))) false (some r18)])
 (.cond (.sl r18) (.seq (.reg [.op (.P (.ifc 270 (.k (.int .i64 4)))) true none,
  .op (.P (.mv (.k (.int .u64 0)))) false (some r35),
  .op (.P (.mv (.st 0))) false (some r36)])
 (.ret))
 (.skip)))))
 (.seq (.reg [.op (.P (.mv (.k (.int .u64 0)))) false (some r29)])
 (.seq (.seq (.reg [.op (.P (.mv (.sl r1))) false (some r7)])
 (.block 2 (.seq (.reg [.op (.P (.cmi .eql (.sl r7) (.k (.int .i64 10)))) true none,
  .op (.P (.mv (.st 0))) false (some r19)])
 (.cond (.sl r19) (.reg [.op (.P (.mv (.k (.int .u64 1844674407370955162)))) false (some r29)])
 (.seq (.reg [.op (.P (.cmi .eql (.sl r7) (.k (.int .i64 16)))) true none,
  .op (.P (.mv (.st 0))) false (some r20)])
 (.cond (.sl r20) (.reg [.op (.P (.mv (.k (.int .u64 1152921504606846976)))) false (some r29)])
 (.reg [.el,
  .op (.P (.cvi .u64 (.sl r1))) true none,
  .op (.P (.ar .quo (.k (.int .u64 18446744073709551615)) (.st 0))) true none,
  .op (.P (.ar .add (.st 0) (.k (.int .u64 1)))) true none,
  .op (.P (.mv (.st 0))) false (some r29)])))))))
 (.seq (.reg [.el,
  .op (.P (.cvi .u64 (.sl r4))) true none,
  .op (.P (.ar .shl (.k (.int .u64 1)) (.st 0))) true none,
  .op (.P (.ar .sub (.st 0) (.k (.int .u64 1)))) true none,
  .op (.P (.mv (.st 0))) false (some r6)])
 (.seq (.reg [.op (.P (.mv (.k (.bool false)))) false (some r33)])
 (.seq (.reg [.op (.P (.mv (.k (.int .u64 0)))) false (some r3)])
 (.seq (.seq (.reg [.el,
  .op (.W (.s2b 5 (.sl r0))) false (some r23),
  .op (.P (.ln 1 (.sl r23))) false (some r21),
  .op (.P (.mv (.k (.int .i64 0)))) false (some r5)])
 (.block 3 (.loop (.seq (.reg [.op (.P (.cmi .lss (.sl r5) (.sl r21))) false (some r22)])
 (.seq (.cond (.sl r22) (.skip)
 (.exit 3))
 (.seq (.block 4 (.seq (.reg [.op (.P (.ia 1 (.sl r23) (.sl r5))) true none,
  .op (.R (.ld 1 false (.st 0))) true none,
  .op (.P (.mv (.st 0))) false (some r2)])
 (.seq (.reg [.op (.P (.mv (.k (.int .u8 0)))) false (some r8)])
 (.seq (.block 5 (.seq (.reg [.el,
  .op (.P (.cmi .eql (.sl r2) (.k (.int .u8 95)))) true none,
  .el,
  .op (.G (.st 0) true (.P (.mv (.sl r24)))) true none,
  .op (.P (.pick (.st 1) (.st 0) (.k (.bool false)))) true none,
  .op (.P (.mv (.st 0))) false (some r25)])
 (.cond (.sl r25) (.seq (.reg [.op (.P (.mv (.k (.bool true)))) false (some r33)])
 (.exit 4))
 (.seq (.reg [.el,
  .op (.P (.cmi .leq (.k (.int .u8 48)) (.sl r2))) true none,
  .el,
  .op (.G (.st 0) true (.P (.mv (.sl r2)))) true none,
  .op (.G (.st 1) true (.P (.cmi .leq (.st 0) (.k (.int .u8 57))))) true none,
  .op (.P (.pick (.st 2) (.st 0) (.k (.bool false)))) true none,
  .op (.P (.mv (.st 0))) false (some r26)])
 (.cond (.sl r26) (.reg [.el,
  .op (.P (.ar .sub (.sl r2) (.k (.int .u8 48)))) true none,
  .op (.P (.mv (.st 0))) false (some r8)])
 (.seq (.reg [.el,
  .op (.C (.cf 177 [(.sl r2)])) true none,
  .op (.P (.cmi .leq (.k (.int .u8 97)) (.st 0))) true none,
  .el,
  .op (.G (.st 0) true (.P (.mv (.sl r2)))) true none,
  .op (.G (.st 1) true (.C (.cf 177 [(.st 0)]))) true none,
  .op (.G (.st 2) true (.P (.cmi .leq (.st 0) (.k (.int .u8 122))))) true none,
  .op (.P (.pick (.st 3) (.st 0) (.k (.bool false)))) true none,
  .op (.P (.mv (.st 0))) false (some r27)])
 (.cond (.sl r27) (.reg [.el,
  .op (.C (.cf 177 [(.sl r2)])) true none,
  .op (.P (.ar .sub (.st 0) (.k (.int .u8 97)))) true none,
  .op (.P (.ar .add (.st 0) (.k (.int .u8 10)))) true none,
  .op (.P (.mv (.st 0))) false (some r8)])
 (.seq (.reg [.op (.P (.ifc 270 (.k (.int .i64 2)))) true none,
  .op (.P (.mv (.k (.int .u64 0)))) false (some r35),
  .op (.P (.mv (.st 0))) false (some r36)])
 (.ret)))))))))
 (.seq (.seq (.reg [.el,
  .el,
  .op (.P (.cvi .u8 (.sl r1))) true none,
  .op (.P (.cmi .geq (.sl r8) (.st 0))) false (some r28)])
 (.cond (.sl r28) (.seq (.reg [.op (.P (.ifc 270 (.k (.int .i64 2)))) true none,
  .op (.P (.mv (.k (.int .u64 0)))) false (some r35),
  .op (.P (.mv (.st 0))) false (some r36)])
 (.ret))
 (.skip)))
 (.seq (.seq (.reg [.el,
  .el,
  .op (.P (.cmi .geq (.sl r3) (.sl r29))) false (some r30)])
 (.cond (.sl r30) (.seq (.reg [.el,
  .op (.P (.ifc 270 (.k (.int .i64 1)))) true none,
  .op (.P (.mv (.sl r6))) false (some r35),
  .op (.P (.mv (.st 0))) false (some r36)])
 (.ret))
 (.skip)))
 (.seq (.reg [.op (.P (.mv (.sl r3))) true none,
  .el,
  .op (.P (.cvi .u64 (.sl r1))) true none,
  .op (.P (.ar .mul (.st 1) (.st 0))) true none,
  .op (.P (.mv (.st 0))) false (some r3)])
 (.seq (.reg [.el,
  .el,
  .op (.P (.cvi .u64 (.sl r8))) true none,
  .op (.P (.ar .add (.sl r3) (.st 0))) true none,
  .op (.P (.mv (.st 0))) false (some r9)])
 (.seq (.seq (.reg [.el,
  .el,
  .op (.P (.cmi .lss (.sl r9) (.sl r3))) true none,
  .el,
  .op (.G (.st 0) false (.P (.mv (.sl r9)))) true none,
  .op (.G (.st 1) false (.P (.mv (.sl r6)))) true none,
  .op (.G (.st 2) false (.P (.cmi .gtr (.st 1) (.st 0)))) true none,
  .op (.P (.pick (.st 3) (.k (.bool true)) (.st 0))) false (some r31)])
 (.cond (.sl r31) (.seq (.reg [.el,
  .op (.P (.ifc 270 (.k (.int .i64 1)))) true none,
  .op (.P (.mv (.sl r6))) false (some r35),
  .op (.P (.mv (.st 0))) false (some r36)])
 (.ret))
 (.skip)))
 (.reg [.el,
  .op (.P (.mv (.sl r9))) false (some r3)]))))))))))
 (.reg [.op (.P (.ar .add (.sl r5) (.k (.int .i64 1)))) true none,
  .op (.P (.mv (.st 0))) false (some r5)])))))))
 (.seq (.seq (.reg [.el,
  .el,
  .op (.G (.sl r33) true (.P (.mv (.sl r32)))) true none,
  .op (.G (.sl r33) true (.C (.cf 178 [(.st 0)]))) true none,
  .op (.G (.sl r33) true (.P (.no (.st 0)))) true none,
  .op (.P (.pick (.sl r33) (.st 0) (.k (.bool false)))) false (some r34)])
 (.cond (.sl r34) (.seq (.reg [.op (.P (.ifc 270 (.k (.int .i64 2)))) true none,
  .op (.P (.mv (.k (.int .u64 0)))) false (some r35),
  .op (.P (.mv (.st 0))) false (some r36)])
 (.ret))
 (.skip)))
 (.seq (.reg [.el,
  .op (.P (.mv (.sl r3))) false (some r35),
  .op (.P (.mv (.k .nili))) false (some r36)])
 (.ret)))))))))))))))
  [.sl (.sl r35), .sl (.sl r36)]

def m153 : SlotMap := [(1, r0), (0, r1), (4, r2)]
def c153 : VFn :=
 VFn.mk [some r1, some r0] (.seq (.reg [.op (.P (.mv (.k .nilp))) false (some r2)])
 (.seq (.dreg [(.q, .op (.P (.mv (.sl r1))) true none),
  (.q, .op (.P (.mv (.sl r0))) true none),
  (.h [], .op (.C (.cf 179 [(.st 0)])) true none),
  (.r 0 1, .op (.R (.ld 1 false (.k (.ptr r1 0)))) true none),
  (.q, .op (.P (.bld [(.str 0 0), (.str 0 0), .nili] [(0, 1, (.st 3)), (1, 1, (.st 1)), (2, 1, (.st 0))])) true none),
  (.h [], .op (.F (.bx 293 (.st 0))) true none),
  (.q, .op (.P (.mv (.st 0))) false (some r2))])
 (.ret)))
  [.sl (.sl r2)]

def m154 : SlotMap := [(1, r0), (0, r1), (4, r2)]
def c154 : VFn :=
 VFn.mk [some r1, some r0] (.seq (.reg [.op (.P (.mv (.k .nilp))) false (some r2)])
 (.seq (.dreg [(.q, .op (.P (.mv (.sl r1))) true none),
  (.q, .op (.P (.mv (.sl r0))) true none),
  (.h [], .op (.C (.cf 179 [(.st 0)])) true none),
  (.r 0 1, .op (.R (.ld 1 false (.k (.ptr r2 0)))) true none),
  (.q, .op (.P (.bld [(.str 0 0), (.str 0 0), .nili] [(0, 1, (.st 3)), (1, 1, (.st 1)), (2, 1, (.st 0))])) true none),
  (.h [], .op (.F (.bx 293 (.st 0))) true none),
  (.q, .op (.P (.mv (.st 0))) false (some r2))])
 (.ret)))
  [.sl (.sl r2)]

def m155 : SlotMap := [(2, r0), (1, r1), (0, r2), (6, r3)]
def c155 : VFn :=
 VFn.mk [some r2, some r1, some r0] (.seq (.reg [.op (.P (.mv (.k .nilp))) false (some r3)])
 (.seq (.reg [.el,
  .el,
  .op (.C (.cf 179 [(.sl r1)])) true none,
  .el,
  .op (.C (.cf 181 [(.sl r0)])) true none,
  .op (.P (.cat (.k (.str 13 8353143528394209359919240668448)) (.st 0))) true none,
  .op (.C (.cf 180 [(.st 0)])) true none,
  .op (.P (.bld [(.str 0 0), (.str 0 0), .nili] [(0, 1, (.sl r2)), (1, 1, (.st 3)), (2, 1, (.st 0))])) true none,
  .op (.F (.bx 293 (.st 0))) true none,
  .op (.P (.mv (.st 0))) false (some r3)])
 (.ret)))
  [.sl (.sl r3)]

def m156 : SlotMap := [(2, r0), (1, r1), (0, r2), (6, r3)]
def c156 : VFn :=
 VFn.mk [some r2, some r1, some r0] (.seq (.reg [.op (.P (.mv (.k .nilp))) false (some r3)])
 (.seq (.reg [.el,
  .el,
  .op (.C (.cf 179 [(.sl r1)])) true none,
  .el,
  .op (.C (.cf 181 [(.sl r0)])) true none,
  .op (.P (.cat (.k (.str 17 35876478273247176596630808538856568808736)) (.st 0))) true none,
  .op (.C (.cf 180 [(.st 0)])) true none,
  .op (.P (.bld [(.str 0 0), (.str 0 0), .nili] [(0, 1, (.sl r2)), (1, 1, (.st 3)), (2, 1, (.st 0))])) true none,
  .op (.F (.bx 293 (.st 0))) true none,
  .op (.P (.mv (.st 0))) false (some r3)])
 (.ret)))
  [.sl (.sl r3)]

def m157 : SlotMap := [(1, r0), (5, r1), (0, r2), (10, r3), (4, r4)]
def c157 : VFn :=
 VFn.mk [some r2, some r0] (.seq (.reg [.op (.P (.mv (.k .nils))) false (some r4)])
 (.seq (.reg [.el,
  .op (.C (.cv (.sl r0) [])) true none,
  .op (.F (.bsl 9 1 1 [(.str 0 0)] [(0, 1, (.st 0))])) true none,
  .op (.P (.mv (.st 0))) false (some r1)])
 (.seq (.block 0 (.loop (.seq (.seq (.reg [.el,
  .op (.C (.cf 89 [(.sl r2), (.k (.str 1 44))])) false (some r3)])
 (.cond (.sl r3) (.skip)
 (.exit 0)))
 (.block 1 (.reg [.op (.P (.mv (.sl r1))) true none,
  .el,
  .op (.C (.cv (.sl r0) [])) true none,
  .op (.F (.bsl 9 1 1 [(.str 0 0)] [(0, 1, (.st 0))])) true none,
  .op (.W (.app 9 1 (.st 2) (.st 0))) true none,
  .op (.P (.mv (.st 0))) false (some r1)])))))
 (.seq (.reg [.el,
  .op (.P (.mv (.sl r1))) false (some r4)])
 (.ret)))))
  [.sl (.sl r4)]

def m158 : SlotMap := [(1, r0), (5, r1), (0, r2), (10, r3), (4, r4)]
def c158 : VFn :=
 VFn.mk [some r2, some r0] (.seq (.reg [.op (.P (.mv (.k .nils))) false (some r4)])
 (.seq (.reg [.el,
  .op (.C (.cv (.sl r0) [])) true none,
  .op (.F (.bsl 97 3 1 [(.int .i64 0), (.str 0 0), .nils] [(0, 3, (.st 0))])) true none,
  .op (.P (.mv (.st 0))) false (some r1)])
 (.seq (.block 0 (.loop (.seq (.seq (.reg [.el,
  .op (.C (.cf 89 [(.sl r2), (.k (.str 1 44))])) false (some r3)])
 (.cond (.sl r3) (.skip)
 (.exit 0)))
 (.block 1 (.reg [.op (.P (.mv (.sl r1))) true none,
  .el,
  .op (.C (.cv (.sl r0) [])) true none,
  .op (.F (.bsl 97 3 1 [(.int .i64 0), (.str 0 0), .nils] [(0, 3, (.st 0))])) true none,
  .op (.W (.app 97 3 (.st 2) (.st 0))) true none,
  .op (.P (.mv (.st 0))) false (some r1)])))))
 (.seq (.reg [.el,
  .op (.P (.mv (.sl r1))) false (some r4)])
 (.ret)))))
  [.sl (.sl r4)]

def m159 : SlotMap := [(1, r0), (5, r1), (0, r2), (10, r3), (4, r4)]
def c159 : VFn :=
 VFn.mk [some r2, some r0] (.seq (.reg [.op (.P (.mv (.k .nils))) false (some r4)])
 (.seq (.reg [.el,
  .op (.C (.cv (.sl r0) [])) true none,
  .op (.F (.bsl 258 4 1 [(.str 0 0), (.int .i64 0), (.str 0 0), .nils] [(0, 4, (.st 0))])) true none,
  .op (.P (.mv (.st 0))) false (some r1)])
 (.seq (.block 0 (.loop (.seq (.seq (.reg [.el,
  .op (.C (.cf 89 [(.sl r2), (.k (.str 1 44))])) false (some r3)])
 (.cond (.sl r3) (.skip)
 (.exit 0)))
 (.block 1 (.reg [.op (.P (.mv (.sl r1))) true none,
  .el,
  .op (.C (.cv (.sl r0) [])) true none,
  .op (.F (.bsl 258 4 1 [(.str 0 0), (.int .i64 0), (.str 0 0), .nils] [(0, 4, (.st 0))])) true none,
  .op (.W (.app 258 4 (.st 2) (.st 0))) true none,
  .op (.P (.mv (.st 0))) false (some r1)])))))
 (.seq (.reg [.el,
  .op (.P (.mv (.sl r1))) false (some r4)])
 (.ret)))))
  [.sl (.sl r4)]

def m160 : SlotMap := [(0, r0), (10, r1), (1, r2), (5, r3), (4, r4)]
def c160 : VFn :=
 VFn.mk [some r0, some r2] (.seq (.reg [.op (.P (.mv (.k .nils))) false (some r4)])
 (.seq (.reg [.el,
  .op (.F (.bsl 9 1 1 [(.str 0 0)] [(0, 1, (.k (.str 1 40)))])) true none,
  .op (.C (.cf 58 [(.sl r0), (.st 0)])) false none])
 (.seq (.seq (.reg [.el,
  .op (.C (.cf 89 [(.sl r0), (.k (.str 1 41))])) false (some r1)])
 (.cond (.sl r1) (.seq (.reg [.op (.P (.mv (.k .nils))) false (some r4)])
 (.ret))
 (.skip)))
 (.seq (.reg [.el,
  .el,
  .op (.C (.cf 182 [(.sl r0), (.sl r2)])) true none,
  .op (.P (.mv (.st 0))) false (some r3)])
 (.seq (.reg [.el,
  .op (.F (.bsl 9 1 1 [(.str 0 0)] [(0, 1, (.k (.str 1 41)))])) true none,
  .op (.C (.cf 58 [(.sl r0), (.st 0)])) false none])
 (.seq (.reg [.el,
  .op (.P (.mv (.sl r3))) false (some r4)])
 (.ret)))))))
  [.sl (.sl r4)]

def m161 : SlotMap := [(0, r0), (8, r1), (1, r2), (5, r3), (4, r4)]
def c161 : VFn :=
 VFn.mk [some r0, some r2] (.seq (.reg [.op (.P (.mv (.k .nils))) false (some r4)])
 (.seq (.seq (.reg [.el,
  .op (.C (.cf 89 [(.sl r0), (.k (.str 1 40))])) true none,
  .op (.P (.no (.st 0))) false (some r1)])
 (.cond (.sl r1) (.seq (.reg [.op (.P (.mv (.k .nils))) false (some r4)])
 (.ret))
 (.skip)))
 (.seq (.reg [.el,
  .el,
  .op (.C (.cf 182 [(.sl r0), (.sl r2)])) true none,
  .op (.P (.mv (.st 0))) false (some r3)])
 (.seq (.reg [.el,
  .op (.F (.bsl 9 1 1 [(.str 0 0)] [(0, 1, (.k (.str 1 41)))])) true none,
  .op (.C (.cf 58 [(.sl r0), (.st 0)])) false none])
 (.seq (.reg [.el,
  .op (.P (.mv (.sl r3))) false (some r4)])
 (.ret))))))
  [.sl (.sl r4)]

def m162 : SlotMap := [(0, r0), (3, r1), (2, r2), (14, r3), (18, r4), (25, r5), (4, r6)]
def c162 : VFn :=
 VFn.mk [some r0] (.seq (.reg [.op (.F (.al 101 [(.int .i64 0), (.int .i64 0), (.str 0 0), .nils, .nils, .nils, .nils, (.int .i64 0)])) false (some r2)])
 (.seq (.reg [.op (.F (.al 101 [(.int .i64 0), (.int .i64 0), (.str 0 0), .nils, .nils, .nils, .nils, (.int .i64 0)])) false (some r1)])
 (.seq (.block 0 (.seq (.reg [.el,
  .op (.C (.cf 89 [(.sl r0), (.k (.str 1 41))])) true none,
  .op (.P (.mv (.st 0))) false (some r3)])
 (.cond (.sl r3) (.seq (.reg [.op (.P (.bld [(.int .i64 0), (.int .i64 0), (.str 0 0), .nils, .nils, .nils, .nils, (.int .i64 0)] [(0, 1, (.k (.int .i64 1)))])) true none,
  .op (.W (.st 8 (.sl r2) (.st 0))) false none])
 (.ret))
 (.seq (.reg [.el,
  .op (.C (.cf 89 [(.sl r0), (.k (.str 3 7237492))])) true none,
  .op (.P (.mv (.st 0))) false (some r4)])
 (.cond (.sl r4) (.reg [.el,
  .op (.C (.cf 103 [(.sl r0)])) true none,
  .op (.F (.bsl 101 8 1 [(.int .i64 0), (.int .i64 0), (.str 0 0), .nils, .nils, .nils, .nils, (.int .i64 0)] [(0, 8, (.st 0))])) true none,
  .op (.P (.bld [(.int .i64 0), (.int .i64 0), (.str 0 0), .nils, .nils, .nils, .nils, (.int .i64 0)] [(0, 1, (.k (.int .i64 8))), (2, 1, (.k (.str 3 7237492))), (5, 1, (.st 0))])) true none,
  .op (.W (.st 8 (.sl r1) (.st 0))) false none])
 (.seq (.reg [.el,
  .op (.C (.cf 89 [(.sl r0), (.k (.str 3 6714734))])) true none,
  .op (.P (.mv (.st 0))) false (some r5)])
 (.cond (.sl r5) (.seq (.reg [.op (.P (.fa 0 (.sl r1))) true none,
  .op (.W (.st 1 (.st 0) (.k (.int .i64 10)))) false none])
 (.seq (.reg [.el,
  .op (.C (.cf 101 [(.sl r0)])) true none,
  .el,
  .op (.P (.ext 0 (.st 0))) true none,
  .op (.P (.ext 1 (.st 1))) true none,
  .op (.P (.fa 3 (.sl r1))) true none,
  .op (.W (.st 1 (.st 0) (.st 2))) false none,
  .op (.P (.fa 4 (.sl r1))) true none,
  .op (.W (.st 1 (.st 0) (.st 2))) false none])
 (.seq (.reg [.el,
  .op (.F (.bsl 9 1 1 [(.str 0 0)] [(0, 1, (.k (.str 2 15678)))])) true none,
  .op (.C (.cf 58 [(.sl r0), (.st 0)])) false none])
 (.reg [.el,
  .op (.C (.cf 103 [(.sl r0)])) true none,
  .op (.F (.bsl 101 8 1 [(.int .i64 0), (.int .i64 0), (.str 0 0), .nils, .nils, .nils, .nils, (.int .i64 0)] [(0, 8, (.st 0))])) true none,
  .op (.P (.fa 5 (.sl r1))) true none,
  .op (.W (.st 1 (.st 0) (.st 1))) false none]))))
 (.seq (.reg [.el,
  .op (.C (.cf 103 [(.sl r0)])) true none,
  .op (.F (.al 101 [(.int .i64 0), (.int .i64 0), (.str 0 0), .nils, .nils, .nils, .nils, (.int .i64 0)])) false (some r6),
  .op (.W (.st 8 (.sl r6) (.st 0))) false none])
 (.dreg [(.q, .op (.P (.mv (.sl r0))) true none),
  (.h [], .op (.C (.cf 183 [(.st 0)])) true none),
  (.r 0 2, .op (.R (.ld 8 true (.sl r6))) true none),
  (.q, .op (.P (.mv (.sl r0))) true none),
  (.h [], .op (.C (.cf 103 [(.st 0)])) true none),
  (.h [], .op (.F (.bsl 101 8 2 [(.int .i64 0), (.int .i64 0), (.str 0 0), .nils, .nils, .nils, .nils, (.int .i64 0), (.int .i64 0), (.int .i64 0), (.str 0 0), .nils, .nils, .nils, .nils, (.int .i64 0)] [(0, 8, (.st 2)), (8, 8, (.st 0))])) true none),
  (.q, .op (.P (.bld [(.int .i64 0), (.int .i64 0), (.str 0 0), .nils, .nils, .nils, .nils, (.int .i64 0)] [(0, 1, (.k (.int .i64 8))), (2, 1, (.st 4)), (5, 1, (.st 0))])) true none),
  (.h [], .op (.W (.st 8 (.sl r1) (.st 0))) false none)])))))))))
 (.seq (.reg [.el,
  .op (.F (.bsl 9 1 1 [(.str 0 0)] [(0, 1, (.k (.str 1 41)))])) true none,
  .op (.C (.cf 58 [(.sl r0), (.st 0)])) false none])
 (.seq (.reg [.op (.R (.ld 8 true (.sl r1))) true none,
  .op (.W (.st 8 (.sl r2) (.st 0))) false none])
 (.ret))))))
  [.cell (.sl r2) 8 true]

def m163 : SlotMap := [(0, r0), (2, r1), (3, r2), (8, r3), (9, r4), (11, r5), (15, r6), (19, r7), (23, r8), (4, r9), (43, r10), (6, r11), (5, r12), (62, r13), (7, r14), (77, r15), (91, r16), (96, r17), (106, r18), (114, r19), (119, r20), (129, r21), (10, r22)]
def c163 : VFn :=
 VFn.mk [some r0] (.seq (.reg [.op (.F (.al 101 [(.int .i64 0), (.int .i64 0), (.str 0 0), .nils, .nils, .nils, .nils, (.int .i64 0)])) false (some r1)])
 (.seq (.block 0 (.seq (.reg [.el,
  .op (.C (.cf 89 [(.sl r0), (.k (.str 4 1953658213))])) true none,
  .op (.P (.mv (.st 0))) false (some r5)])
 (.cond (.sl r5) (.seq (.reg [.op (.P (.bld [(.int .i64 0), (.int .i64 0), (.str 0 0), .nils, .nils, .nils, .nils, (.int .i64 0)] [(0, 1, (.k (.int .i64 3))), (1, 1, (.k (.int .i64 1)))])) true none,
  .op (.W (.st 8 (.sl r1) (.st 0))) false none])
 (.ret))
 (.seq (.reg [.el,
  .op (.C (.cf 89 [(.sl r0), (.k (.str 5 439721161573))])) true none,
  .op (.P (.mv (.st 0))) false (some r6)])
 (.cond (.sl r6) (.seq (.reg [.op (.P (.bld [(.int .i64 0), (.int .i64 0), (.str 0 0), .nils, .nils, .nils, .nils, (.int .i64 0)] [(0, 1, (.k (.int .i64 3)))])) true none,
  .op (.W (.st 8 (.sl r1) (.st 0))) false none])
 (.ret))
 (.seq (.reg [.el,
  .op (.C (.cf 89 [(.sl r0), (.k (.str 4 1936026726))])) true none,
  .op (.P (.mv (.st 0))) false (some r7)])
 (.cond (.sl r7) (.seq (.reg [.op (.P (.bld [(.int .i64 0), (.int .i64 0), (.str 0 0), .nils, .nils, .nils, .nils, (.int .i64 0)] [(0, 1, (.k (.int .i64 16)))])) true none,
  .op (.W (.st 8 (.sl r1) (.st 0))) false none])
 (.ret))
 (.seq (.reg [.el,
  .op (.C (.cf 89 [(.sl r0), (.k (.str 3 7103860))])) true none,
  .op (.P (.mv (.st 0))) false (some r8)])
 (.cond (.sl r8) (.seq (.reg [.el,
  .op (.C (.cf 59 [(.sl r0)])) true none,
  .op (.P (.bld [(.int .i64 0), (.int .i64 0), (.str 0 0), .nils, .nils, .nils, .nils, (.int .i64 0)] [(0, 1, (.k (.int .i64 6))), (2, 1, (.st 0))])) true none,
  .op (.F (.al 101 [(.int .i64 0), (.int .i64 0), (.str 0 0), .nils, .nils, .nils, .nils, (.int .i64 0)])) false (some r2),
  .op (.W (.st 8 (.sl r2) (.st 0))) false none])
 (.seq (.reg [.el,
  .op (.F (.bsl 9 1 1 [(.str 0 0)] [(0, 1, (.k (.str 1 61)))])) true none,
  .op (.C (.cf 58 [(.sl r0), (.st 0)])) false none])
 (.seq (.reg [.el,
  .op (.C (.cf 103 [(.sl r0)])) true none,
  .op (.F (.al 101 [(.int .i64 0), (.int .i64 0), (.str 0 0), .nils, .nils, .nils, .nils, (.int .i64 0)])) false (some r9),
  .op (.W (.st 8 (.sl r9) (.st 0))) false none])
 (.seq (.reg [.el,
  .op (.F (.bsl 9 1 1 [(.str 0 0)] [(0, 1, (.k (.str 2 26990)))])) true none,
  .op (.C (.cf 58 [(.sl r0), (.st 0)])) false none])
 (.seq (.dreg [(.r 0 1, .op (.R (.ld 8 true (.sl r9))) true none),
  (.q, .op (.P (.mv (.sl r0))) true none),
  (.h [], .op (.C (.cf 103 [(.st 0)])) true none),
  (.h [], .op (.F (.bsl 101 8 2 [(.int .i64 0), (.int .i64 0), (.str 0 0), .nils, .nils, .nils, .nils, (.int .i64 0), (.int .i64 0), (.int .i64 0), (.str 0 0), .nils, .nils, .nils, .nils, (.int .i64 0)] [(0, 8, (.st 2)), (8, 8, (.st 0))])) true none),
  (.q, .op (.P (.fa 5 (.sl r2))) true none),
  (.h [], .op (.W (.st 1 (.st 0) (.st 1))) false none)])
 (.seq (.reg [.op (.R (.ld 8 true (.sl r2))) true none,
  .op (.W (.st 8 (.sl r1) (.st 0))) false none])
 (.ret)))))))
 (.seq (.reg [.el,
  .op (.C (.cf 89 [(.sl r0), (.k (.str 2 26982))])) true none,
  .op (.P (.mv (.st 0))) false (some r10)])
 (.cond (.sl r10) (.seq (.reg [.el,
  .op (.C (.cf 103 [(.sl r0)])) true none,
  .op (.F (.al 101 [(.int .i64 0), (.int .i64 0), (.str 0 0), .nils, .nils, .nils, .nils, (.int .i64 0)])) false (some r12),
  .op (.W (.st 8 (.sl r12) (.st 0))) false none])
 (.seq (.reg [.el,
  .op (.F (.bsl 9 1 1 [(.str 0 0)] [(0, 1, (.k (.str 4 1952998766)))])) true none,
  .op (.C (.cf 58 [(.sl r0), (.st 0)])) false none])
 (.seq (.reg [.el,
  .op (.C (.cf 103 [(.sl r0)])) true none,
  .op (.F (.al 101 [(.int .i64 0), (.int .i64 0), (.str 0 0), .nils, .nils, .nils, .nils, (.int .i64 0)])) false (some r11),
  .op (.W (.st 8 (.sl r11) (.st 0))) false none])
 (.seq (.reg [.el,
  .op (.F (.bsl 9 1 1 [(.str 0 0)] [(0, 1, (.k (.str 4 1701606245)))])) true none,
  .op (.C (.cf 58 [(.sl r0), (.st 0)])) false none])
 (.seq (.dreg [(.r 0 1, .op (.R (.ld 8 true (.sl r12))) true none),
  (.r 0 1, .op (.R (.ld 8 true (.sl r11))) true none),
  (.q, .op (.P (.mv (.sl r0))) true none),
  (.h [], .op (.C (.cf 103 [(.st 0)])) true none),
  (.h [], .op (.F (.bsl 101 8 3 [(.int .i64 0), (.int .i64 0), (.str 0 0), .nils, .nils, .nils, .nils, (.int .i64 0), (.int .i64 0), (.int .i64 0), (.str 0 0), .nils, .nils, .nils, .nils, (.int .i64 0), (.int .i64 0), (.int .i64 0), (.str 0 0), .nils, .nils, .nils, .nils, (.int .i64 0)] [(0, 8, (.st 3)), (8, 8, (.st 2)), (16, 8, (.st 0))])) true none),
  (.q, .op (.P (.bld [(.int .i64 0), (.int .i64 0), (.str 0 0), .nils, .nils, .nils, .nils, (.int .i64 0)] [(0, 1, (.k (.int .i64 7))), (5, 1, (.st 0))])) true none),
  (.h [], .op (.W (.st 8 (.sl r1) (.st 0))) false none)])
 (.ret))))))
 (.seq (.reg [.el,
  .op (.C (.cf 89 [(.sl r0), (.k (.str 5 418498243705))])) true none,
  .op (.P (.mv (.st 0))) false (some r13)])
 (.cond (.sl r13) (.seq (.reg [.el,
  .op (.F (.bsl 9 1 1 [(.str 0 0)] [(0, 1, (.k (.str 1 40)))])) true none,
  .op (.C (.cf 58 [(.sl r0), (.st 0)])) false none])
 (.seq (.reg [.el,
  .el,
  .op (.P (.mkf 103 [(.sl r0)] [])) true none,
  .op (.C (.cf 182 [(.sl r0), (.st 0)])) true none,
  .op (.P (.bld [(.int .i64 0), (.int .i64 0), (.str 0 0), .nils, .nils, .nils, .nils, (.int .i64 0)] [(0, 1, (.k (.int .i64 11))), (5, 1, (.st 0))])) true none,
  .op (.F (.al 101 [(.int .i64 0), (.int .i64 0), (.str 0 0), .nils, .nils, .nils, .nils, (.int .i64 0)])) false (some r14),
  .op (.W (.st 8 (.sl r14) (.st 0))) false none])
 (.seq (.reg [.el,
  .op (.F (.bsl 9 1 1 [(.str 0 0)] [(0, 1, (.k (.str 1 41)))])) true none,
  .op (.C (.cf 58 [(.sl r0), (.st 0)])) false none])
 (.seq (.reg [.op (.R (.ld 8 true (.sl r14))) true none,
  .op (.W (.st 8 (.sl r1) (.st 0))) false none])
 (.ret)))))
 (.seq (.reg [.el,
  .op (.C (.cf 89 [(.sl r0), (.k (.str 5 469786452840))])) true none,
  .op (.P (.mv (.st 0))) false (some r15)])
 (.cond (.sl r15) (.seq (.reg [.el,
  .op (.C (.cf 103 [(.sl r0)])) true none,
  .op (.F (.bsl 101 8 1 [(.int .i64 0), (.int .i64 0), (.str 0 0), .nils, .nils, .nils, .nils, (.int .i64 0)] [(0, 8, (.st 0))])) true none,
  .op (.P (.bld [(.int .i64 0), (.int .i64 0), (.str 0 0), .nils, .nils, .nils, .nils, (.int .i64 0)] [(0, 1, (.k (.int .i64 13))), (5, 1, (.st 0))])) true none,
  .op (.F (.al 101 [(.int .i64 0), (.int .i64 0), (.str 0 0), .nils, .nils, .nils, .nils, (.int .i64 0)])) false (some r3),
  .op (.W (.st 8 (.sl r3) (.st 0))) false none])
 (.seq (.reg [.el,
  .op (.F (.bsl 9 1 1 [(.str 0 0)] [(0, 1, (.k (.str 1 123)))])) true none,
  .op (.C (.cf 58 [(.sl r0), (.st 0)])) false none])
 (.seq (.reg [.el,
  .op (.C (.cf 184 [(.sl r0)])) true none,
  .op (.P (.fa 6 (.sl r3))) true none,
  .op (.W (.st 1 (.st 0) (.st 1))) false none])
 (.seq (.reg [.op (.R (.ld 8 true (.sl r3))) true none,
  .op (.W (.st 8 (.sl r1) (.st 0))) false none])
 (.ret)))))
 (.seq (.reg [.el,
  .op (.C (.cf 89 [(.sl r0), (.k (.str 7 32199624922592869))])) true none,
  .op (.P (.mv (.st 0))) false (some r16)])
 (.cond (.sl r16) (.seq (.reg [.el,
  .op (.C (.cf 185 [(.sl r0)])) true none,
  .op (.W (.st 8 (.sl r1) (.st 0))) false none])
 (.ret))
 (.seq (.reg [.el,
  .op (.C (.cf 89 [(.sl r0), (.k (.str 5 495806674798))])) true none,
  .op (.P (.mv (.st 0))) false (some r17)])
 (.cond (.sl r17) (.seq (.reg [.el,
  .op (.C (.cf 95 [(.sl r0)])) true none,
  .el,
  .el,
  .op (.P (.mkf 103 [(.sl r0)] [])) true none,
  .op (.C (.cf 160 [(.sl r0), (.st 0)])) true none,
  .op (.P (.bld [(.int .i64 0), (.int .i64 0), (.str 0 0), .nils, .nils, .nils, .nils, (.int .i64 0)] [(0, 1, (.k (.int .i64 14))), (2, 1, (.st 2)), (5, 1, (.st 0))])) true none,
  .op (.W (.st 8 (.sl r1) (.st 0))) false none])
 (.ret))
 (.seq (.reg [.el,
  .op (.C (.cf 89 [(.sl r0), (.k (.str 6 108187599465829))])) true none,
  .op (.P (.mv (.st 0))) false (some r18)])
 (.cond (.sl r18) (.seq (.reg [.el,
  .el,
  .op (.P (.mkf 103 [(.sl r0)] [])) true none,
  .op (.C (.cf 160 [(.sl r0), (.st 0)])) true none,
  .op (.P (.bld [(.int .i64 0), (.int .i64 0), (.str 0 0), .nils, .nils, .nils, .nils, (.int .i64 0)] [(0, 1, (.k (.int .i64 17))), (5, 1, (.st 0))])) true none,
  .op (.W (.st 8 (.sl r1) (.st 0))) false none])
 (.ret))
 (.seq (.reg [.el,
  .op (.C (.cf 89 [(.sl r0), (.k (.str 4 1936027236))])) true none,
  .op (.P (.mv (.st 0))) false (some r19)])
 (.cond (.sl r19) (.seq (.reg [.el,
  .op (.C (.cf 186 [(.sl r0), (.k (.int .i64 15))])) true none,
  .op (.W (.st 8 (.sl r1) (.st 0))) false none])
 (.ret))
 (.seq (.reg [.el,
  .op (.C (.cf 89 [(.sl r0), (.k (.str 3 7370100))])) true none,
  .op (.P (.mv (.st 0))) false (some r20)])
 (.cond (.sl r20) (.seq (.reg [.el,
  .op (.C (.cf 186 [(.sl r0), (.k (.int .i64 23))])) true none,
  .op (.W (.st 8 (.sl r1) (.st 0))) false none])
 (.ret))
 (.skip))))))))))))))))))))))))))
 (.seq (.reg [.el,
  .op (.C (.cf 92 [(.sl r0)])) true none,
  .op (.P (.fld 1 1 false (.st 0))) true none,
  .op (.C (.cf 187 [(.st 0)])) true none,
  .op (.P (.mv (.st 0))) false (some r4)])
 (.seq (.seq (.reg [.el,
  .op (.P (.cmi .eql (.sl r4) (.k (.int .i64 0)))) false (some r21)])
 (.cond (.sl r21) (.reg [.el,
  .op (.C (.cf 90 [(.sl r0)])) false none])
 (.skip)))
 (.seq (.reg [.el,
  .op (.P (.nn (.sl r0))) true none,
  .op (.P (.fa 1 (.st 0))) true none,
  .op (.R (.ld 1 false (.st 0))) true none,
  .op (.P (.ar .add (.st 0) (.k (.int .i64 1)))) true none,
  .op (.P (.nn (.sl r0))) true none,
  .op (.P (.fa 1 (.st 0))) true none,
  .op (.W (.st 1 (.st 0) (.st 2))) false none])
 (.seq (.reg [.el,
  .op (.F (.bsl 9 1 1 [(.str 0 0)] [(0, 1, (.k (.str 1 40)))])) true none,
  .op (.C (.cf 58 [(.sl r0), (.st 0)])) false none])
 (.seq (.reg [.el,
  .el,
  .op (.C (.cf 103 [(.sl r0)])) true none,
  .op (.F (.bsl 101 8 1 [(.int .i64 0), (.int .i64 0), (.str 0 0), .nils, .nils, .nils, .nils, (.int .i64 0)] [(0, 8, (.st 0))])) true none,
  .op (.P (.bld [(.int .i64 0), (.int .i64 0), (.str 0 0), .nils, .nils, .nils, .nils, (.int .i64 0)] [(0, 1, (.sl r4)), (5, 1, (.st 0))])) true none,
  .op (.F (.al 101 [(.int .i64 0), (.int .i64 0), (.str 0 0), .nils, .nils, .nils, .nils, (.int .i64 0)])) false (some r22),
  .op (.W (.st 8 (.sl r22) (.st 0))) false none])
 (.seq (.reg [.el,
  .op (.F (.bsl 9 1 1 [(.str 0 0)] [(0, 1, (.k (.str 1 41)))])) true none,
  .op (.C (.cf 58 [(.sl r0), (.st 0)])) false none])
 (.seq (.reg [.op (.R (.ld 8 true (.sl r22))) true none,
  .op (.W (.st 8 (.sl r1) (.st 0))) false none])
 (.ret))))))))))
  [.cell (.sl r1) 8 true]

def m164 : SlotMap := [(9, r0), (3, r1), (0, r2), (1, r3), (8, r4), (10, r5), (7, r6), (5, r7), (2, r8)]
def c164 : VFn :=
 VFn.mk [some r2] (.seq (.reg [.op (.F (.bx 164 (.sl r2))) false (some r3),
  .op (.P (.mv (.k (.int .i64 0)))) false (some r8)])
 (.seq (.reg [.op (.P (.mv (.k (.int .i64 1)))) false (some r1)])
 (.seq (.seq (.reg [.op (.P (.fa 3 (.sl r3))) true none,
  .op (.R (.ld 1 false (.st 0))) false (some r6),
  .op (.P (.ln 1 (.sl r6))) false (some r4),
  .op (.P (.mv (.k (.int .i64 0)))) false (some r0)])
 (.block 0 (.loop (.seq (.reg [.op (.P (.cmi .lss (.sl r0) (.sl r4))) false (some r5)])
 (.seq (.cond (.sl r5) (.skip)
 (.exit 0))
 (.seq (.block 1 (.seq (.reg [.op (.P (.ia 4 (.sl r6) (.sl r0))) true none,
  .op (.R (.ld 4 true (.st 0))) true none,
  .op (.F (.al 164 [(.int .i64 0), (.int .i64 0), (.str 0 0), .nils])) false (some r7),
  .op (.W (.st 4 (.sl r7) (.st 0))) false none])
 (.reg [.op (.P (.mv (.sl r1))) true none,
  .op (.R (.ld 4 true (.sl r7))) true none,
  .op (.C (.cf 164 [(.st 0)])) true none,
  .op (.P (.ar .add (.st 2) (.st 0))) true none,
  .op (.P (.mv (.st 0))) false (some r1)])))
 (.reg [.op (.P (.ar .add (.sl r0) (.k (.int .i64 1)))) true none,
  .op (.P (.mv (.st 0))) false (some r0)])))))))
 (.seq (.reg [.el,
  .op (.P (.mv (.sl r1))) false (some r8)])
 (.ret)))))
  [.sl (.sl r8)]

def m165 : SlotMap := [(9, r0), (3, r1), (0, r2), (1, r3), (8, r4), (10, r5), (7, r6), (5, r7), (2, r8)]
def c165 : VFn :=
 VFn.mk [some r2] (.seq (.reg [.op (.F (.bx 164 (.sl r2))) false (some r3),
  .op (.P (.mv (.k (.int .i64 0)))) false (some r8)])
 (.seq (.reg [.op (.P (.mv (.k (.int .i64 0)))) false (some r1)])
 (.seq (.seq (.reg [.op (.P (.fa 3 (.sl r3))) true none,
  .op (.R (.ld 1 false (.st 0))) false (some r6),
  .op (.P (.ln 1 (.sl r6))) false (some r4),
  .op (.P (.mv (.k (.int .i64 0)))) false (some r0)])
 (.block 0 (.loop (.seq (.reg [.op (.P (.cmi .lss (.sl r0) (.sl r4))) false (some r5)])
 (.seq (.cond (.sl r5) (.skip)
 (.exit 0))
 (.seq (.block 1 (.seq (.reg [.op (.P (.ia 4 (.sl r6) (.sl r0))) true none,
  .op (.R (.ld 4 true (.st 0))) true none,
  .op (.F (.al 164 [(.int .i64 0), (.int .i64 0), (.str 0 0), .nils])) false (some r7),
  .op (.W (.st 4 (.sl r7) (.st 0))) false none])
 (.reg [.op (.P (.mv (.sl r1))) true none,
  .op (.R (.ld 4 true (.sl r7))) true none,
  .op (.C (.cf 165 [(.st 0)])) true none,
  .op (.P (.mx false [(.st 2), (.st 0)])) true none,
  .op (.P (.mv (.st 0))) false (some r1)])))
 (.reg [.op (.P (.ar .add (.sl r0) (.k (.int .i64 1)))) true none,
  .op (.P (.mv (.st 0))) false (some r0)])))))))
 (.seq (.reg [.el,
  .op (.P (.ar .add (.sl r1) (.k (.int .i64 1)))) true none,
  .op (.P (.mv (.st 0))) false (some r8)])
 (.ret)))))
  [.sl (.sl r8)]

def m166 : SlotMap := [(8, r0), (9, r1), (1, r2), (0, r3), (14, r4), (3, r5), (2, r6)]
def c166 : VFn :=
 VFn.mk [some r3] (.seq (.reg [.op (.F (.bx 101 (.sl r3))) false (some r2),
  .op (.P (.mv (.k (.bool false)))) false (some r6)])
 (.seq (.reg [.op (.P (.fa 5 (.sl r2))) true none,
  .op (.R (.ld 1 false (.st 0))) true none,
  .op (.P (.ln 1 (.st 0))) true none,
  .op (.P (.mv (.st 0))) false (some r5)])
 (.seq (.seq (.reg [.op (.P (.fa 0 (.sl r2))) true none,
  .op (.R (.ld 1 false (.st 0))) false (some r0)])
 (.block 0 (.seq (.seq (.reg [.op (.P (.cmi .eql (.sl r0) (.k (.int .i64 9)))) true none,
  .op (.P (.mv (.st 0))) false (some r1)])
 (.cond (.sl r1) (.skip)
 (.seq (.reg [.op (.P (.cmi .eql (.sl r0) (.k (.int .i64 12)))) true none,
  .op (.P (.mv (.st 0))) false (some r1)])
 (.cond (.sl r1) (.skip)
 (.seq (.reg [.op (.P (.cmi .eql (.sl r0) (.k (.int .i64 14)))) true none,
  .op (.P (.mv (.st 0))) false (some r1)])
 (.cond (.sl r1) (.skip)
 (.reg [.op (.P (.cmi .eql (.sl r0) (.k (.int .i64 17)))) true none,
  .op (.P (.mv (.st 0))) false (some r1)])))))))
 (.cond (.sl r1) (.reg [.op (.P (.mv (.k (.int .i64 6)))) false (some r5)])
 (.seq (.reg [.op (.P (.cmi .eql (.sl r0) (.k (.int .i64 11)))) true none,
  .op (.P (.mv (.st 0))) false (some r4)])
 (.cond (.sl r4) (.reg [.op (.P (.mv (.k (.int .i64 7)))) false (some r5)])
 (.skip)))))))
 (.seq (.reg [.op (.P (.fa 5 (.sl r2))) true none,
  .op (.R (.ld 1 false (.st 0))) true none,
  .op (.P (.ln 1 (.st 0))) true none,
  .el,
  .op (.P (.cmi .gtr (.st 0) (.sl r5))) true none,
  .el,
  .op (.G (.st 0) false (.P (.fa 6 (.sl r2)))) true none,
  .op (.G (.st 1) false (.R (.ld 1 false (.st 0)))) true none,
  .op (.G (.st 2) false (.P (.ln 1 (.st 0)))) true none,
  .op (.G (.st 3) false (.P (.cmi .gtr (.st 0) (.k (.int .i64 12))))) true none,
  .op (.P (.pick (.st 4) (.k (.bool true)) (.st 0))) true none,
  .el,
  .op (.G (.st 0) false (.P (.fa 2 (.sl r2)))) true none,
  .op (.G (.st 1) false (.R (.ld 1 false (.st 0)))) true none,
  .op (.G (.st 2) false (.P (.ln 0 (.st 0)))) true none,
  .op (.G (.st 3) false (.P (.cmi .gtr (.st 0) (.k (.int .i64 64))))) true none,
  .op (.P (.pick (.st 4) (.k (.bool true)) (.st 0))) true none,
  .op (.P (.mv (.st 0))) false (some r6)])
 (.ret)))))
  [.sl (.sl r6)]

def m167 : SlotMap := [(1, r0), (20, r1), (21, r2), (28, r3), (71, r4), (6, r5), (0, r6), (34, r7), (42, r8), (44, r9), (54, r10), (56, r11), (72, r12), (76, r13), (5, r14), (4, r15), (3, r16), (2, r17)]
def c167 : VFn :=
 VFn.mk [some r6] (.seq (.reg [.op (.F (.bx 101 (.sl r6))) false (some r0),
  .op (.P (.mv (.k (.bool false)))) false (some r17)])
 (.seq (.dreg [(.q, .op (.P (.fa 5 (.sl r0))) true none),
  (.r 0 1, .op (.R (.ld 1 false (.st 0))) true none),
  (.q, .op (.P (.ln 1 (.st 0))) true none),
  (.r 0 0, .op (.R (.ld 8 true (.sl r0))) true none),
  (.h [], .op (.C (.cf 45 [(.st 0)])) true none),
  (.q, .op (.P (.cmi .eql (.st 2) (.st 0))) true none),
  (.q, .op (.P (.fa 2 (.sl r0))) true none),
  (.r 0 1, .op (.R (.ld 1 false (.st 0))) true none),
  (.q, .op (.P (.cms .eql (.st 0) (.k (.str 0 0)))) true none),
  (.q, .op (.P (.fa 1 (.sl r0))) true none),
  (.r 0 1, .op (.R (.ld 1 false (.st 0))) true none),
  (.q, .op (.P (.cmi .eql (.st 0) (.k (.int .i64 0)))) true none),
  (.q, .op (.P (.mv (.st 6))) false (some r16)),
  (.q, .op (.P (.mv (.st 3))) false (some r15)),
  (.q, .op (.P (.mv (.st 0))) false (some r14))])
 (.seq (.seq (.reg [.op (.P (.fa 0 (.sl r0))) true none,
  .op (.R (.ld 1 false (.st 0))) false (some r1)])
 (.block 0 (.seq (.seq (.reg [.op (.P (.cmi .eql (.sl r1) (.k (.int .i64 5)))) true none,
  .op (.P (.mv (.st 0))) false (some r2)])
 (.cond (.sl r2) (.skip)
 (.seq (.reg [.op (.P (.cmi .eql (.sl r1) (.k (.int .i64 6)))) true none,
  .op (.P (.mv (.st 0))) false (some r2)])
 (.cond (.sl r2) (.skip)
 (.reg [.op (.P (.cmi .eql (.sl r1) (.k (.int .i64 9)))) true none,
  .op (.P (.mv (.st 0))) false (some r2)])))))
 (.cond (.sl r2) (.reg [.op (.P (.fa 2 (.sl r0))) true none,
  .op (.R (.ld 1 false (.st 0))) true none,
  .op (.C (.cf 62 [(.st 0)])) true none,
  .op (.P (.mv (.st 0))) false (some r15)])
 (.seq (.seq (.reg [.op (.P (.cmi .eql (.sl r1) (.k (.int .i64 12)))) true none,
  .op (.P (.mv (.st 0))) false (some r3)])
 (.cond (.sl r3) (.skip)
 (.reg [.op (.P (.cmi .eql (.sl r1) (.k (.int .i64 14)))) true none,
  .op (.P (.mv (.st 0))) false (some r3)])))
 (.cond (.sl r3) (.reg [.op (.P (.fa 2 (.sl r0))) true none,
  .op (.R (.ld 1 false (.st 0))) true none,
  .op (.C (.cf 85 [(.st 0)])) true none,
  .op (.P (.mv (.st 0))) false (some r15)])
 (.seq (.reg [.op (.P (.cmi .eql (.sl r1) (.k (.int .i64 8)))) true none,
  .op (.P (.mv (.st 0))) false (some r7)])
 (.cond (.sl r7) (.reg [.op (.P (.fa 2 (.sl r0))) true none,
  .op (.R (.ld 1 false (.st 0))) true none,
  .op (.P (.fa 5 (.sl r0))) true none,
  .op (.R (.ld 1 false (.st 0))) true none,
  .op (.P (.ln 1 (.st 0))) true none,
  .op (.C (.cf 188 [(.st 3), (.st 0)])) true none,
  .op (.P (.mv (.st 0))) false (some r15)])
 (.seq (.reg [.op (.P (.cmi .eql (.sl r1) (.k (.int .i64 4)))) true none,
  .op (.P (.mv (.st 0))) false (some r8)])
 (.cond (.sl r8) (.reg [.op (.P (.mv (.k (.bool true)))) false (some r15)])
 (.seq (.reg [.op (.P (.cmi .eql (.sl r1) (.k (.int .i64 3)))) true none,
  .op (.P (.mv (.st 0))) false (some r9)])
 (.cond (.sl r9) (.reg [.op (.P (.fa 1 (.sl r0))) true none,
  .op (.R (.ld 1 false (.st 0))) true none,
  .op (.P (.cmi .eql (.st 0) (.k (.int .i64 0)))) true none,
  .el,
  .op (.G (.st 0) false (.P (.fa 1 (.sl r0)))) true none,
  .op (.G (.st 1) false (.R (.ld 1 false (.st 0)))) true none,
  .op (.G (.st 2) false (.P (.cmi .eql (.st 0) (.k (.int .i64 1))))) true none,
  .op (.P (.pick (.st 3) (.k (.bool true)) (.st 0))) true none,
  .op (.P (.mv (.st 0))) false (some r14)])
 (.seq (.reg [.op (.P (.cmi .eql (.sl r1) (.k (.int .i64 2)))) true none,
  .op (.P (.mv (.st 0))) false (some r10)])
 (.cond (.sl r10) (.reg [.op (.P (.mv (.k (.bool true)))) false (some r14)])
 (.seq (.reg [.op (.P (.cmi .eql (.sl r1) (.k (.int .i64 18)))) true none,
  .op (.P (.mv (.st 0))) false (some r11)])
 (.cond (.sl r11) (.reg [.op (.P (.fa 1 (.sl r0))) true none,
  .op (.R (.ld 1 false (.st 0))) true none,
  .op (.P (.cmi .eql (.st 0) (.k (.int .i64 (-1))))) true none,
  .el,
  .op (.G (.st 0) false (.P (.fa 1 (.sl r0)))) true none,
  .op (.G (.st 1) false (.R (.ld 1 false (.st 0)))) true none,
  .op (.G (.st 2) false (.C (.cf 63 [(.st 0)]))) true none,
  .op (.P (.pick (.st 3) (.k (.bool true)) (.st 0))) true none,
  .op (.P (.mv (.st 0))) false (some r14)])
 (.skip)))))))))))))))))
 (.seq (.reg [.op (.P (.fa 6 (.sl r0))) true none,
  .op (.R (.ld 1 false (.st 0))) true none,
  .op (.P (.ln 1 (.st 0))) true none,
  .op (.P (.cmi .eql (.st 0) (.k (.int .i64 0)))) true none,
  .op (.P (.mv (.st 0))) false (some r5)])
 (.seq (.seq (.reg [.op (.P (.fa 0 (.sl r0))) true none,
  .op (.R (.ld 1 false (.st 0))) false (some r4)])
 (.block 1 (.seq (.reg [.op (.P (.cmi .eql (.sl r4) (.k (.int .i64 13)))) true none,
  .op (.P (.mv (.st 0))) false (some r12)])
 (.cond (.sl r12) (.reg [.op (.P (.mv (.sl r5))) true none,
  .op (.P (.no (.st 0))) true none,
  .op (.P (.mv (.st 0))) false (some r5)])
 (.seq (.reg [.op (.P (.cmi .eql (.sl r4) (.k (.int .i64 18)))) true none,
  .op (.P (.mv (.st 0))) false (some r13)])
 (.cond (.sl r13) (.reg [.op (.P (.mv (.k (.bool true)))) false (some r5)])
 (.skip)))))))
 (.seq (.reg [.el,
  .el,
  .op (.G (.sl r16) true (.P (.mv (.sl r15)))) true none,
  .op (.P (.pick (.sl r16) (.st 0) (.k (.bool false)))) true none,
  .el,
  .op (.G (.st 0) true (.P (.mv (.sl r14)))) true none,
  .op (.P (.pick (.st 1) (.st 0) (.k (.bool false)))) true none,
  .el,
  .op (.G (.st 0) true (.P (.mv (.sl r5)))) true none,
  .op (.P (.pick (.st 1) (.st 0) (.k (.bool false)))) true none,
  .el,
  .op (.G (.st 0) true (.P (.fa 0 (.sl r0)))) true none,
  .op (.G (.st 1) true (.R (.ld 1 false (.st 0)))) true none,
  .op (.G (.st 2) true (.P (.cmi .eql (.st 0) (.k (.int .i64 10))))) true none,
  .op (.G (.st 3) true (.P (.mv (.st 0)))) true none,
  .op (.G (.st 0) false (.P (.fa 3 (.sl r0)))) true none,
  .op (.G (.st 1) false (.R (.ld 1 false (.st 0)))) true none,
  .op (.G (.st 2) false (.P (.ln 1 (.st 0)))) true none,
  .op (.G (.st 3) false (.P (.fa 4 (.sl r0)))) true none,
  .op (.G (.st 4) false (.R (.ld 1 false (.st 0)))) true none,
  .op (.G (.st 5) false (.P (.ln 1 (.st 0)))) true none,
  .op (.G (.st 6) false (.P (.ar .add (.st 3) (.st 0)))) true none,
  .op (.G (.st 7) false (.P (.cmi .eql (.st 0) (.k (.int .i64 0))))) true none,
  .op (.G (.st 12) true (.P (.pick (.st 8) (.k (.bool true)) (.st 0)))) true none,
  .op (.P (.pick (.st 13) (.st 0) (.k (.bool false)))) true none,
  .op (.P (.mv (.st 0))) false (some r17)])
 (.ret)))))))
  [.sl (.sl r17)]

def m168 : SlotMap := [(10, r0), (7, r1), (0, r2), (9, r3), (11, r4), (8, r5), (6, r6), (1, r7), (18, r8), (4, r9)]
def c168 : VFn :=
 VFn.mk [some r2, some r7] (.seq (.reg [.op (.P (.mv (.k (.int .i64 0)))) false (some r9)])
 (.seq (.seq (.reg [.op (.P (.mv (.sl r2))) false (some r5),
  .op (.P (.ln 1 (.sl r5))) false (some r3),
  .op (.P (.mv (.k (.int .i64 0)))) false (some r0)])
 (.block 0 (.loop (.seq (.reg [.op (.P (.cmi .lss (.sl r0) (.sl r3))) false (some r4)])
 (.seq (.cond (.sl r4) (.skip)
 (.exit 0))
 (.seq (.block 1 (.seq (.reg [.op (.P (.ia 8 (.sl r5) (.sl r0))) true none,
  .op (.R (.ld 8 true (.st 0))) true none,
  .op (.F (.al 101 [(.int .i64 0), (.int .i64 0), (.str 0 0), .nils, .nils, .nils, .nils, (.int .i64 0)])) false (some r6),
  .op (.W (.st 8 (.sl r6) (.st 0))) false none])
 (.seq (.reg [.el,
  .op (.R (.ld 8 true (.sl r6))) true none,
  .op (.C (.cv (.sl r7) [(.st 0)])) true none,
  .op (.P (.mv (.st 0))) false (some r1)])
 (.seq (.reg [.el,
  .op (.P (.cmi .neq (.sl r1) (.k (.int .i64 0)))) false (some r8)])
 (.cond (.sl r8) (.seq (.reg [.el,
  .op (.P (.mv (.sl r1))) false (some r9)])
 (.ret))
 (.skip))))))
 (.reg [.op (.P (.ar .add (.sl r0) (.k (.int .i64 1)))) true none,
  .op (.P (.mv (.st 0))) false (some r0)])))))))
 (.seq (.reg [.op (.P (.mv (.k (.int .i64 0)))) false (some r9)])
 (.ret))))
  [.sl (.sl r9)]

def m169 : SlotMap := [(0, r0), (1, r1), (2, r2), (3, r3)]
def c169 : VFn :=
 VFn.mk [some r0, some r1] (.seq (.reg [.op (.F (.bx 101 (.sl r0))) false (some r2),
  .op (.P (.mv (.k (.int .i64 0)))) false (some r3)])
 (.seq (.reg [.op (.R (.ld 8 true (.sl r2))) true none,
  .op (.R (.ld 1 false (.sl r1))) true none,
  .op (.C (.cf 143 [(.st 1), (.st 0)])) true none,
  .op (.P (.mv (.st 0))) false (some r3)])
 (.ret)))
  [.sl (.sl r3)]

def m170 : SlotMap := [(10, r0), (7, r1), (0, r2), (9, r3), (11, r4), (8, r5), (6, r6), (1, r7), (18, r8), (4, r9)]
def c170 : VFn :=
 VFn.mk [some r2, some r7] (.seq (.reg [.op (.P (.mv (.k (.int .i64 0)))) false (some r9)])
 (.seq (.seq (.reg [.op (.P (.mv (.sl r2))) false (some r5),
  .op (.P (.ln 1 (.sl r5))) false (some r3),
  .op (.P (.mv (.k (.int .i64 0)))) false (some r0)])
 (.block 0 (.loop (.seq (.reg [.op (.P (.cmi .lss (.sl r0) (.sl r3))) false (some r4)])
 (.seq (.cond (.sl r4) (.skip)
 (.exit 0))
 (.seq (.block 1 (.seq (.reg [.op (.P (.ia 12 (.sl r5) (.sl r0))) true none,
  .op (.R (.ld 12 true (.st 0))) true none,
  .op (.F (.al 166 [(.int .i64 0), (.int .i64 0), (.str 0 0), .nils, (.int .i64 0), (.int .i64 0), (.str 0 0), .nils, .nils, .nils, .nils, (.int .i64 0)])) false (some r6),
  .op (.W (.st 12 (.sl r6) (.st 0))) false none])
 (.seq (.reg [.el,
  .op (.R (.ld 12 true (.sl r6))) true none,
  .op (.C (.cv (.sl r7) [(.st 0)])) true none,
  .op (.P (.mv (.st 0))) false (some r1)])
 (.seq (.reg [.el,
  .op (.P (.cmi .neq (.sl r1) (.k (.int .i64 0)))) false (some r8)])
 (.cond (.sl r8) (.seq (.reg [.el,
  .op (.P (.mv (.sl r1))) false (some r9)])
 (.ret))
 (.skip))))))
 (.reg [.op (.P (.ar .add (.sl r0) (.k (.int .i64 1)))) true none,
  .op (.P (.mv (.st 0))) false (some r0)])))))))
 (.seq (.reg [.op (.P (.mv (.k (.int .i64 0)))) false (some r9)])
 (.ret))))
  [.sl (.sl r9)]

def m171 : SlotMap := [(2, r0), (4, r1), (0, r2), (9, r3), (1, r4), (3, r5)]
def c171 : VFn :=
 VFn.mk [some r2, some r4] (.seq (.reg [.op (.F (.bx 166 (.sl r2))) false (some r0),
  .op (.P (.mv (.k (.int .i64 0)))) false (some r5)])
 (.seq (.seq (.reg [.op (.P (.fa 0 (.sl r0))) true none,
  .op (.R (.ld 4 true (.st 0))) true none,
  .op (.C (.cf 172 [(.st 0)])) true none,
  .op (.P (.mv (.st 0))) false (some r1)])
 (.seq (.reg [.el,
  .op (.P (.cmi .neq (.sl r1) (.k (.int .i64 0)))) false (some r3)])
 (.cond (.sl r3) (.seq (.reg [.el,
  .op (.P (.mv (.sl r1))) false (some r5)])
 (.ret))
 (.skip))))
 (.seq (.reg [.op (.P (.fa 4 (.sl r0))) true none,
  .op (.R (.ld 8 true (.st 0))) true none,
  .op (.R (.ld 1 false (.sl r4))) true none,
  .op (.C (.cf 143 [(.st 1), (.st 0)])) true none,
  .op (.P (.mv (.st 0))) false (some r5)])
 (.ret))))
  [.sl (.sl r5)]

def m172 : SlotMap := [(1, r0), (21, r1), (0, r2), (13, r3), (22, r4), (24, r5), (29, r6), (31, r7), (41, r8), (43, r9), (4, r10), (3, r11), (48, r12), (66, r13), (2, r14)]
def c172 : VFn :=
 VFn.mk [some r2] (.seq (.reg [.op (.F (.bx 164 (.sl r2))) false (some r0),
  .op (.P (.mv (.k (.int .i64 0)))) false (some r14)])
 (.seq (.seq (.reg [.op (.P (.fa 0 (.sl r0))) true none,
  .op (.R (.ld 1 false (.st 0))) true none,
  .op (.P (.cmi .eql (.st 0) (.k (.int .i64 5)))) true none,
  .el,
  .op (.G (.st 0) true (.P (.fa 2 (.sl r0)))) true none,
  .op (.G (.st 1) true (.R (.ld 1 false (.st 0)))) true none,
  .op (.G (.st 2) true (.P (.ln 0 (.st 0)))) true none,
  .op (.G (.st 3) true (.P (.cmi .gtr (.st 0) (.k (.int .i64 64))))) true none,
  .op (.P (.pick (.st 4) (.st 0) (.k (.bool false)))) false (some r3)])
 (.cond (.sl r3) (.seq (.reg [.op (.P (.mv (.k (.int .i64 2)))) false (some r14)])
 (.ret))
 (.skip)))
 (.seq (.dreg [(.q, .op (.P (.fa 2 (.sl r0))) true none),
  (.r 0 0, .op (.R (.ld 1 false (.st 0))) true none),
  (.q, .op (.P (.cms .eql (.st 0) (.k (.str 0 0)))) true none),
  (.q, .op (.P (.fa 1 (.sl r0))) true none),
  (.r 0 0, .op (.R (.ld 1 false (.st 0))) true none),
  (.q, .op (.P (.cmi .eql (.st 0) (.k (.int .i64 0)))) true none),
  (.q, .op (.P (.mv (.st 3))) false (some r11)),
  (.q, .op (.P (.mv (.st 0))) false (some r10))])
 (.seq (.seq (.reg [.op (.P (.fa 0 (.sl r0))) true none,
  .op (.R (.ld 1 false (.st 0))) false (some r1)])
 (.block 0 (.seq (.reg [.op (.P (.cmi .eql (.sl r1) (.k (.int .i64 1)))) true none,
  .op (.P (.mv (.st 0))) false (some r4)])
 (.cond (.sl r4) (.skip)
 (.seq (.reg [.op (.P (.cmi .eql (.sl r1) (.k (.int .i64 2)))) true none,
  .op (.P (.mv (.st 0))) false (some r5)])
 (.cond (.sl r5) (.reg [.op (.P (.fa 2 (.sl r0))) true none,
  .op (.R (.ld 1 false (.st 0))) true none,
  .op (.C (.cf 62 [(.st 0)])) true none,
  .op (.P (.mv (.st 0))) false (some r11)])
 (.seq (.reg [.op (.P (.cmi .eql (.sl r1) (.k (.int .i64 3)))) true none,
  .op (.P (.mv (.st 0))) false (some r6)])
 (.cond (.sl r6) (.reg [.op (.P (.mv (.k (.bool true)))) false (some r10)])
 (.seq (.reg [.op (.P (.cmi .eql (.sl r1) (.k (.int .i64 4)))) true none,
  .op (.P (.mv (.st 0))) false (some r7)])
 (.cond (.sl r7) (.reg [.op (.P (.fa 1 (.sl r0))) true none,
  .op (.R (.ld 1 false (.st 0))) true none,
  .op (.P (.cmi .eql (.st 0) (.k (.int .i64 0)))) true none,
  .el,
  .op (.G (.st 0) false (.P (.fa 1 (.sl r0)))) true none,
  .op (.G (.st 1) false (.R (.ld 1 false (.st 0)))) true none,
  .op (.G (.st 2) false (.P (.cmi .eql (.st 0) (.k (.int .i64 1))))) true none,
  .op (.P (.pick (.st 3) (.k (.bool true)) (.st 0))) true none,
  .op (.P (.mv (.st 0))) false (some r10)])
 (.seq (.reg [.op (.P (.cmi .eql (.sl r1) (.k (.int .i64 5)))) true none,
  .op (.P (.mv (.st 0))) false (some r8)])
 (.cond (.sl r8) (.reg [.op (.P (.mv (.k (.bool true)))) false (some r11)])
 (.seq (.reg [.op (.P (.cmi .eql (.sl r1) (.k (.int .i64 6)))) true none,
  .op (.P (.mv (.st 0))) false (some r9)])
 (.cond (.sl r9) (.reg [.op (.P (.fa 2 (.sl r0))) true none,
  .op (.R (.ld 1 false (.st 0))) true none,
  .op (.C (.cf 85 [(.st 0)])) true none,
  .op (.P (.mv (.st 0))) false (some r11)])
 (.seq (.reg [.op (.P (.mv (.k (.int .i64 3)))) false (some r14)])
 (.ret))))))))))))))))
 (.seq (.block 1 (.seq (.reg [.el,
  .op (.P (.no (.sl r11))) true none,
  .el,
  .op (.G (.st 0) false (.P (.mv (.sl r10)))) true none,
  .op (.G (.st 1) false (.P (.no (.st 0)))) true none,
  .op (.P (.pick (.st 2) (.k (.bool true)) (.st 0))) true none,
  .el,
  .op (.G (.st 0) false (.P (.fa 3 (.sl r0)))) true none,
  .op (.G (.st 1) false (.R (.ld 1 false (.st 0)))) true none,
  .op (.G (.st 2) false (.P (.ln 1 (.st 0)))) true none,
  .op (.G (.st 3) false (.P (.cmi .gtr (.st 0) (.k (.int .i64 0))))) true none,
  .op (.G (.st 4) false (.P (.mv (.st 0)))) true none,
  .op (.G (.st 0) true (.P (.fa 0 (.sl r0)))) true none,
  .op (.G (.st 1) true (.R (.ld 1 false (.st 0)))) true none,
  .op (.G (.st 2) true (.P (.cmi .neq (.st 0) (.k (.int .i64 6))))) true none,
  .op (.G (.st 8) false (.P (.pick (.st 3) (.st 0) (.k (.bool false))))) true none,
  .op (.P (.pick (.st 9) (.k (.bool true)) (.st 0))) true none,
  .op (.P (.mv (.st 0))) false (some r12)])
 (.cond (.sl r12) (.seq (.reg [.op (.P (.mv (.k (.int .i64 3)))) false (some r14)])
 (.ret))
 (.seq (.reg [.op (.P (.fa 3 (.sl r0))) true none,
  .op (.R (.ld 1 false (.st 0))) true none,
  .op (.P (.ln 1 (.st 0))) true none,
  .op (.P (.cmi .gtr (.st 0) (.k (.int .i64 6)))) true none,
  .op (.P (.mv (.st 0))) false (some r13)])
 (.cond (.sl r13) (.seq (.reg [.op (.P (.mv (.k (.int .i64 2)))) false (some r14)])
 (.ret))
 (.skip))))))
 (.seq (.reg [.op (.P (.fa 3 (.sl r0))) true none,
  .op (.R (.ld 1 false (.st 0))) true none,
  .op (.C (.cf 189 [(.st 0), (.k (.fn 172 [] []))])) true none,
  .op (.P (.mv (.st 0))) false (some r14)])
 (.ret)))))))
  [.sl (.sl r14)]

def m174 : SlotMap := [(0, r0), (5, r1), (8, r2), (4, r3), (7, r4), (6, r5), (12, r6), (25, r7), (30, r8), (2, r9), (3, r10)]
def c174 : VFn :=
 VFn.mk [some r0] (.seq (.reg [.op (.P (.mv (.k (.int .u32 0)))) false (some r9),
  .op (.P (.mv (.k (.int .u32 0)))) false (some r10)])
 (.seq (.reg [.op (.P (.mv (.k (.int .u32 0)))) false (some r3)])
 (.seq (.seq (.reg [.op (.P (.mv (.k (.int .i64 0)))) false (some r1)])
 (.block 0 (.loop (.seq (.seq (.reg [.el,
  .el,
  .op (.P (.ln 0 (.sl r0))) true none,
  .op (.P (.cmi .lss (.sl r1) (.st 0))) false (some r6)])
 (.cond (.sl r6) (.skip)
 (.exit 0)))
 (.seq (.block 1 (.reg [.op (.P (.mv (.sl r3))) true none,
  .op (.P (.ar .mul (.st 0) (.k (.int .u32 16777619)))) true none,
  .el,
  .el,
  .op (.P (.idxs (.sl r0) (.sl r1))) true none,
  .op (.P (.cvi .u32 (.st 0))) true none,
  .op (.P (.ar .add (.st 2) (.st 0))) true none,
  .op (.P (.mv (.st 0))) false (some r3)]))
 (.reg [.op (.P (.mv (.sl r1))) true none,
  .op (.P (.ar .add (.st 0) (.k (.int .i64 1)))) true none,
  .op (.P (.mv (.st 0))) false (some r1)]))))))
 (.seq (.reg [.op (.P (.mv (.k (.int .u32 1)))) false (some r5),
  .op (.P (.mv (.k (.int .u32 16777619)))) false (some r4)])
 (.seq (.seq (.reg [.el,
  .op (.P (.ln 0 (.sl r0))) true none,
  .op (.P (.mv (.st 0))) false (some r2)])
 (.block 2 (.loop (.seq (.seq (.reg [.el,
  .op (.P (.cmi .gtr (.sl r2) (.k (.int .i64 0)))) false (some r7)])
 (.cond (.sl r7) (.skip)
 (.exit 2)))
 (.seq (.block 3 (.seq (.seq (.reg [.el,
  .op (.P (.ar .and (.sl r2) (.k (.int .i64 1)))) true none,
  .op (.P (.cmi .neq (.st 0) (.k (.int .i64 0)))) false (some r8)])
 (.cond (.sl r8) (.reg [.op (.P (.mv (.sl r5))) true none,
  .el,
  .op (.P (.ar .mul (.st 0) (.sl r4))) true none,
  .op (.P (.mv (.st 0))) false (some r5)])
 (.skip)))
 (.reg [.op (.P (.mv (.sl r4))) true none,
  .op (.P (.mv (.sl r4))) true none,
  .op (.P (.ar .mul (.st 1) (.st 0))) true none,
  .op (.P (.mv (.st 0))) false (some r4)])))
 (.reg [.op (.P (.mv (.sl r2))) true none,
  .op (.P (.ar .shr (.st 0) (.k (.int .u64 1)))) true none,
  .op (.P (.mv (.st 0))) false (some r2)]))))))
 (.seq (.reg [.el,
  .el,
  .op (.P (.mv (.sl r3))) false (some r9),
  .op (.P (.mv (.sl r5))) false (some r10)])
 (.ret)))))))
  [.sl (.sl r9), .sl (.sl r10)]

def m175 : SlotMap := [(3, r0), (0, r1), (10, r2), (1, r3), (11, r4), (9, r5), (13, r6), (15, r7), (20, r8), (36, r9), (41, r10), (2, r11), (8, r12)]
def c175 : VFn :=
 VFn.mk [some r1, some r3, some r11, some r0] (.seq (.reg [.op (.P (.mv (.k .nils))) false (some r12)])
 (.seq (.seq (.reg [.el,
  .op (.P (.cmi .eql (.sl r0) (.k (.int .i64 0)))) false (some r6)])
 (.cond (.sl r6) (.seq (.reg [.op (.P (.mv (.k .nils))) false (some r12)])
 (.ret))
 (.skip)))
 (.seq (.seq (.reg [.el,
  .op (.P (.cms .eql (.sl r3) (.k (.str 0 0)))) false (some r7)])
 (.cond (.sl r7) (.seq (.reg [.el,
  .el,
  .op (.C (.cf 190 [(.sl r1), (.sl r0)])) true none,
  .op (.P (.mv (.st 0))) false (some r12)])
 (.ret))
 (.skip)))
 (.seq (.seq (.reg [.el,
  .op (.P (.cmi .lss (.sl r0) (.k (.int .i64 0)))) false (some r8)])
 (.cond (.sl r8) (.reg [.el,
  .el,
  .op (.C (.cf 52 [(.sl r1), (.sl r3)])) true none,
  .op (.P (.ar .add (.st 0) (.k (.int .i64 1)))) true none,
  .op (.P (.mv (.st 0))) false (some r0)])
 (.skip)))
 (.seq (.reg [.op (.P (.mv (.sl r0))) true none,
  .el,
  .op (.P (.ln 0 (.sl r1))) true none,
  .op (.P (.ar .add (.st 0) (.k (.int .i64 1)))) true none,
  .op (.P (.mx true [(.st 2), (.st 0)])) true none,
  .op (.P (.mv (.st 0))) false (some r0)])
 (.seq (.reg [.el,
  .op (.W (.mks 9 1 16 [(.str 0 0)] (.sl r0) (.sl r0))) true none,
  .op (.P (.mv (.st 0))) false (some r5)])
 (.seq (.reg [.op (.P (.mv (.sl r0))) true none,
  .op (.P (.ar .sub (.st 0) (.k (.int .i64 1)))) true none,
  .op (.P (.mv (.st 0))) false (some r0)])
 (.seq (.reg [.op (.P (.mv (.k (.int .i64 0)))) false (some r2)])
 (.seq (.block 0 (.loop (.seq (.seq (.reg [.el,
  .el,
  .op (.P (.cmi .lss (.sl r2) (.sl r0))) false (some r9)])
 (.cond (.sl r9) (.skip)
 (.exit 0)))
 (.block 1 (.seq (.reg [.el,
  .el,
  .op (.C (.cf 80 [(.sl r1), (.sl r3)])) true none,
  .op (.P (.mv (.st 0))) false (some r4)])
 (.seq (.seq (.reg [.el,
  .op (.P (.cmi .lss (.sl r4) (.k (.int .i64 0)))) false (some r10)])
 (.cond (.sl r10) (.exit 0)
 (.skip)))
 (.seq (.reg [.el,
  .el,
  .el,
  .el,
  .el,
  .op (.P (.ar .add (.sl r4) (.sl r11))) true none,
  .op (.P (.sls (.sl r1) none (some (.st 0)))) true none,
  .op (.P (.ia 1 (.sl r5) (.sl r2))) true none,
  .op (.W (.st 1 (.st 0) (.st 1))) false none])
 (.seq (.reg [.op (.P (.mv (.sl r1))) true none,
  .el,
  .el,
  .op (.P (.ln 0 (.sl r3))) true none,
  .op (.P (.ar .add (.sl r4) (.st 0))) true none,
  .op (.P (.sls (.st 2) (some (.st 0)) none)) true none,
  .op (.P (.mv (.st 0))) false (some r1)])
 (.reg [.op (.P (.mv (.sl r2))) true none,
  .op (.P (.ar .add (.st 0) (.k (.int .i64 1)))) true none,
  .op (.P (.mv (.st 0))) false (some r2)])))))))))
 (.seq (.reg [.el,
  .el,
  .el,
  .op (.P (.ia 1 (.sl r5) (.sl r2))) true none,
  .op (.W (.st 1 (.st 0) (.sl r1))) false none])
 (.seq (.reg [.el,
  .el,
  .op (.P (.ar .add (.sl r2) (.k (.int .i64 1)))) true none,
  .op (.R (.sll 9 1 (.sl r5) none (some (.st 0)))) true none,
  .op (.P (.mv (.st 0))) false (some r12)])
 (.ret))))))))))))
  [.sl (.sl r12)]

def m176 : SlotMap := [(1, r0), (0, r1), (4, r2)]
def c176 : VFn :=
 VFn.mk [some r1, some r0] (.seq (.reg [.op (.P (.mv (.k (.int .i64 0)))) false (some r2)])
 (.seq (.reg [.el,
  .el,
  .op (.C (.cf 145 [(.sl r1), (.sl r0)])) true none,
  .op (.P (.mv (.st 0))) false (some r2)])
 (.ret)))
  [.sl (.sl r2)]

def m177 : SlotMap := [(0, r0), (2, r1)]
def c177 : VFn :=
 VFn.mk [some r0] (.seq (.reg [.op (.P (.mv (.k (.int .u8 0)))) false (some r1)])
 (.seq (.reg [.el,
  .op (.P (.ar .or (.sl r0) (.k (.int .u8 32)))) true none,
  .op (.P (.mv (.st 0))) false (some r1)])
 (.ret)))
  [.sl (.sl r1)]

def m178 : SlotMap := [(0, r0), (4, r1), (3, r2), (18, r3), (46, r4), (54, r5), (5, r6), (83, r7), (87, r8), (89, r9), (91, r10), (2, r11)]
def c178 : VFn :=
 VFn.mk [some r0] (.seq (.reg [.op (.P (.mv (.k (.bool false)))) false (some r11)])
 (.seq (.reg [.op (.P (.mv (.k (.int .i32 94)))) false (some r2)])
 (.seq (.reg [.op (.P (.mv (.k (.int .i64 0)))) false (some r1)])
 (.seq (.seq (.reg [.el,
  .op (.P (.ln 0 (.sl r0))) true none,
  .op (.P (.cmi .geq (.st 0) (.k (.int .i64 1)))) true none,
  .el,
  .op (.G (.st 0) true (.P (.mv (.sl r0)))) true none,
  .op (.G (.st 1) true (.P (.idxs (.st 0) (.k (.int .i64 0))))) true none,
  .op (.G (.st 2) true (.P (.cmi .eql (.st 0) (.k (.int .u8 45))))) true none,
  .op (.G (.st 3) true (.P (.mv (.st 0)))) true none,
  .op (.G (.st 0) false (.P (.mv (.sl r0)))) true none,
  .op (.G (.st 1) false (.P (.idxs (.st 0) (.k (.int .i64 0))))) true none,
  .op (.G (.st 2) false (.P (.cmi .eql (.st 0) (.k (.int .u8 43))))) true none,
  .op (.G (.st 7) true (.P (.pick (.st 3) (.k (.bool true)) (.st 0)))) true none,
  .op (.P (.pick (.st 8) (.st 0) (.k (.bool false)))) false (some r3)])
 (.cond (.sl r3) (.reg [.op (.P (.mv (.sl r0))) true none,
  .op (.P (.sls (.st 0) (some (.k (.int .i64 1))) none)) true none,
  .op (.P (.mv (.st 0))) false (some r0)])
 (.skip)))
 (.seq (.reg [.op (.P (.mv (.k (.bool false)))) false (some r6)])
 (.seq (.seq (.reg [.el,
  .op (.P (.ln 0 (.sl r0))) true none,
  .op (.P (.cmi .geq (.st 0) (.k (.int .i64 2)))) true none,
  .el,
  .op (.G (.st 0) true (.P (.mv (.sl r0)))) true none,
  .op (.G (.st 1) true (.P (.idxs (.st 0) (.k (.int .i64 0))))) true none,
  .op (.G (.st 2) true (.P (.cmi .eql (.st 0) (.k (.int .u8 48))))) true none,
  .op (.P (.pick (.st 3) (.st 0) (.k (.bool false)))) true none,
  .el,
  .op (.G (.st 0) true (.P (.mv (.sl r0)))) true none,
  .op (.G (.st 1) true (.P (.idxs (.st 0) (.k (.int .i64 1))))) true none,
  .op (.G (.st 2) true (.C (.cf 177 [(.st 0)]))) true none,
  .op (.G (.st 3) true (.P (.cmi .eql (.st 0) (.k (.int .u8 98))))) true none,
  .op (.G (.st 4) true (.P (.mv (.st 0)))) true none,
  .op (.G (.st 0) false (.P (.mv (.sl r0)))) true none,
  .op (.G (.st 1) false (.P (.idxs (.st 0) (.k (.int .i64 1))))) true none,
  .op (.G (.st 2) false (.C (.cf 177 [(.st 0)]))) true none,
  .op (.G (.st 3) false (.P (.cmi .eql (.st 0) (.k (.int .u8 111))))) true none,
  .op (.G (.st 9) true (.P (.pick (.st 4) (.k (.bool true)) (.st 0)))) true none,
  .op (.G (.st 10) true (.P (.mv (.st 0)))) true none,
  .op (.G (.st 0) false (.P (.mv (.sl r0)))) true none,
  .op (.G (.st 1) false (.P (.idxs (.st 0) (.k (.int .i64 1))))) true none,
  .op (.G (.st 2) false (.C (.cf 177 [(.st 0)]))) true none,
  .op (.G (.st 3) false (.P (.cmi .eql (.st 0) (.k (.int .u8 120))))) true none,
  .op (.G (.st 15) true (.P (.pick (.st 4) (.k (.bool true)) (.st 0)))) true none,
  .op (.P (.pick (.st 16) (.st 0) (.k (.bool false)))) false (some r4)])
 (.cond (.sl r4) (.seq (.reg [.op (.P (.mv (.k (.int .i64 2)))) false (some r1)])
 (.seq (.reg [.op (.P (.mv (.k (.int .i32 48)))) false (some r2)])
 (.reg [.el,
  .op (.P (.idxs (.sl r0) (.k (.int .i64 1)))) true none,
  .op (.C (.cf 177 [(.st 0)])) true none,
  .op (.P (.cmi .eql (.st 0) (.k (.int .u8 120)))) true none,
  .op (.P (.mv (.st 0))) false (some r6)])))
 (.skip)))
 (.seq (.block 0 (.loop (.seq (.seq (.reg [.el,
  .el,
  .op (.P (.ln 0 (.sl r0))) true none,
  .op (.P (.cmi .lss (.sl r1) (.st 0))) false (some r5)])
 (.cond (.sl r5) (.skip)
 (.exit 0)))
 (.seq (.block 1 (.seq (.seq (.reg [.el,
  .el,
  .op (.P (.idxs (.sl r0) (.sl r1))) true none,
  .op (.P (.cmi .leq (.k (.int .u8 48)) (.st 0))) true none,
  .el,
  .op (.G (.st 0) true (.P (.mv (.sl r0)))) true none,
  .op (.G (.st 1) true (.P (.mv (.sl r1)))) true none,
  .op (.G (.st 2) true (.P (.idxs (.st 1) (.st 0)))) true none,
  .op (.G (.st 3) true (.P (.cmi .leq (.st 0) (.k (.int .u8 57))))) true none,
  .op (.P (.pick (.st 4) (.st 0) (.k (.bool false)))) true none,
  .el,
  .op (.G (.st 0) false (.P (.mv (.sl r6)))) true none,
  .op (.G (.st 1) false (.P (.mv (.st 0)))) true none,
  .op (.G (.st 0) true (.P (.mv (.sl r0)))) true none,
  .op (.G (.st 1) true (.P (.mv (.sl r1)))) true none,
  .op (.G (.st 2) true (.P (.idxs (.st 1) (.st 0)))) true none,
  .op (.G (.st 3) true (.C (.cf 177 [(.st 0)]))) true none,
  .op (.G (.st 4) true (.P (.cmi .leq (.k (.int .u8 97)) (.st 0)))) true none,
  .op (.G (.st 7) false (.P (.pick (.st 5) (.st 0) (.k (.bool false))))) true none,
  .op (.G (.st 8) false (.P (.mv (.st 0)))) true none,
  .op (.G (.st 0) true (.P (.mv (.sl r0)))) true none,
  .op (.G (.st 1) true (.P (.mv (.sl r1)))) true none,
  .op (.G (.st 2) true (.P (.idxs (.st 1) (.st 0)))) true none,
  .op (.G (.st 3) true (.C (.cf 177 [(.st 0)]))) true none,
  .op (.G (.st 4) true (.P (.cmi .leq (.st 0) (.k (.int .u8 102))))) true none,
  .op (.G (.st 14) false (.P (.pick (.st 5) (.st 0) (.k (.bool false))))) true none,
  .op (.P (.pick (.st 15) (.k (.bool true)) (.st 0))) false (some r7)])
 (.cond (.sl r7) (.seq (.reg [.op (.P (.mv (.k (.int .i32 48)))) false (some r2)])
 (.exit 1))
 (.skip)))
 (.seq (.seq (.reg [.el,
  .el,
  .op (.P (.idxs (.sl r0) (.sl r1))) true none,
  .op (.P (.cmi .eql (.st 0) (.k (.int .u8 95)))) false (some r8)])
 (.cond (.sl r8) (.seq (.seq (.reg [.el,
  .op (.P (.cmi .neq (.sl r2) (.k (.int .i32 48)))) false (some r9)])
 (.cond (.sl r9) (.seq (.reg [.op (.P (.mv (.k (.bool false)))) false (some r11)])
 (.ret))
 (.skip)))
 (.seq (.reg [.op (.P (.mv (.k (.int .i32 95)))) false (some r2)])
 (.exit 1)))
 (.skip)))
 (.seq (.seq (.reg [.el,
  .op (.P (.cmi .eql (.sl r2) (.k (.int .i32 95)))) false (some r10)])
 (.cond (.sl r10) (.seq (.reg [.op (.P (.mv (.k (.bool false)))) false (some r11)])
 (.ret))
 (.skip)))
 (.reg [.op (.P (.mv (.k (.int .i32 33)))) false (some r2)])))))
 (.reg [.op (.P (.mv (.sl r1))) true none,
  .op (.P (.ar .add (.st 0) (.k (.int .i64 1)))) true none,
  .op (.P (.mv (.st 0))) false (some r1)])))))
 (.seq (.reg [.el,
  .op (.P (.cmi .neq (.sl r2) (.k (.int .i32 95)))) true none,
  .op (.P (.mv (.st 0))) false (some r11)])
 (.ret)))))))))
  [.sl (.sl r11)]

def m180 : SlotMap := [(0, r0), (2, r1)]
def c180 : VFn :=
 VFn.mk [some r0] (.seq (.reg [.op (.P (.mv (.k .nili))) false (some r1)])
 (.seq (.reg [.el,
  .op (.P (.bld [(.str 0 0)] [(0, 1, (.sl r0))])) true none,
  .op (.F (.bx 303 (.st 0))) true none,
  .op (.P (.ifc 301 (.st 0))) true none,
  .op (.P (.mv (.st 0))) false (some r1)])
 (.ret)))
  [.sl (.sl r1)]

def m181 : SlotMap := [(0, r0), (2, r1)]
def c181 : VFn :=
 VFn.mk [some r0] (.seq (.reg [.op (.P (.mv (.k (.str 0 0)))) false (some r1)])
 (.seq (.reg [.el,
  .op (.C (.cf 191 [(.sl r0)])) true none,
  .op (.P (.mv (.st 0))) false (some r1)])
 (.ret)))
  [.sl (.sl r1)]

def m182 : SlotMap := [(1, r0), (5, r1), (0, r2), (10, r3), (4, r4)]
def c182 : VFn :=
 VFn.mk [some r2, some r0] (.seq (.reg [.op (.P (.mv (.k .nils))) false (some r4)])
 (.seq (.reg [.el,
  .op (.C (.cv (.sl r0) [])) true none,
  .op (.F (.bsl 101 8 1 [(.int .i64 0), (.int .i64 0), (.str 0 0), .nils, .nils, .nils, .nils, (.int .i64 0)] [(0, 8, (.st 0))])) true none,
  .op (.P (.mv (.st 0))) false (some r1)])
 (.seq (.block 0 (.loop (.seq (.seq (.reg [.el,
  .op (.C (.cf 89 [(.sl r2), (.k (.str 1 44))])) false (some r3)])
 (.cond (.sl r3) (.skip)
 (.exit 0)))
 (.block 1 (.reg [.op (.P (.mv (.sl r1))) true none,
  .el,
  .op (.C (.cv (.sl r0) [])) true none,
  .op (.F (.bsl 101 8 1 [(.int .i64 0), (.int .i64 0), (.str 0 0), .nils, .nils, .nils, .nils, (.int .i64 0)] [(0, 8, (.st 0))])) true none,
  .op (.W (.app 101 8 (.st 2) (.st 0))) true none,
  .op (.P (.mv (.st 0))) false (some r1)])))))
 (.seq (.reg [.el,
  .op (.P (.mv (.sl r1))) false (some r4)])
 (.ret)))))
  [.sl (.sl r4)]

def m183 : SlotMap := [(7, r0), (4, r1), (0, r2), (6, r3), (8, r4), (5, r5), (13, r6), (2, r7)]
def c183 : VFn :=
 VFn.mk [some r2] (.seq (.reg [.op (.P (.mv (.k (.str 0 0)))) false (some r7)])
 (.seq (.seq (.reg [.op (.C (.cf 150 [(.k (.str 22 16135235698011369328224916392565237735980387883052914)), (.k (.str 1 32))])) false (some r5),
  .op (.P (.ln 1 (.sl r5))) false (some r3),
  .op (.P (.mv (.k (.int .i64 0)))) false (some r0)])
 (.block 0 (.loop (.seq (.reg [.op (.P (.cmi .lss (.sl r0) (.sl r3))) false (some r4)])
 (.seq (.cond (.sl r4) (.skip)
 (.exit 0))
 (.seq (.block 1 (.seq (.reg [.op (.P (.ia 1 (.sl r5) (.sl r0))) true none,
  .op (.R (.ld 1 false (.st 0))) true none,
  .op (.P (.mv (.st 0))) false (some r1)])
 (.seq (.reg [.el,
  .el,
  .op (.C (.cf 89 [(.sl r2), (.sl r1)])) false (some r6)])
 (.cond (.sl r6) (.seq (.reg [.el,
  .op (.P (.mv (.sl r1))) false (some r7)])
 (.ret))
 (.skip)))))
 (.reg [.op (.P (.ar .add (.sl r0) (.k (.int .i64 1)))) true none,
  .op (.P (.mv (.st 0))) false (some r0)])))))))
 (.seq (.reg [.el,
  .op (.C (.cf 90 [(.sl r2)])) false none])
 (.seq (.reg [.op (.P (.mv (.k (.str 0 0)))) false (some r7)])
 (.ret)))))
  [.sl (.sl r7)]

end GoVm
