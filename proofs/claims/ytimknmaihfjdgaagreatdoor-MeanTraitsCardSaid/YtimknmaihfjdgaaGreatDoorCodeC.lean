/- The compiled form of the program's functions, part 3 of 3: definitions alone, printed by a program. -/
import Derived.Test.YtimknmaihfjdgaaGreatDoorCodeB
namespace GoVm
def m184 : SlotMap := [(0, r0), (3, r1), (4, r2), (19, r3), (2, r4)]
def c184 : VFn :=
 VFn.mk [some r0] (.seq (.reg [.op (.P (.mv (.k .nils))) false (some r4)])
 (.seq (.reg [.op (.P (.mv (.k .nils))) false (some r1)])
 (.block 0 (.loop (.block 1 (.seq (.reg [.el,
  .op (.C (.cf 192 [(.sl r0)])) true none,
  .op (.F (.al 164 [(.int .i64 0), (.int .i64 0), (.str 0 0), .nils])) false (some r2),
  .op (.W (.st 4 (.sl r2) (.st 0))) false none])
 (.seq (.reg [.el,
  .op (.F (.bsl 9 1 1 [(.str 0 0)] [(0, 1, (.k (.str 2 15678)))])) true none,
  .op (.C (.cf 58 [(.sl r0), (.st 0)])) false none])
 (.seq (.dreg [(.q, .op (.P (.mv (.sl r1))) true none),
  (.r 0 1, .op (.R (.ld 4 true (.sl r2))) true none),
  (.q, .op (.P (.mv (.sl r0))) true none),
  (.h [], .op (.C (.cf 103 [(.st 0)])) true none),
  (.q, .op (.P (.bld [(.int .i64 0), (.int .i64 0), (.str 0 0), .nils, (.int .i64 0), (.int .i64 0), (.str 0 0), .nils, .nils, .nils, .nils, (.int .i64 0)] [(0, 4, (.st 2)), (4, 8, (.st 0))])) true none),
  (.f, .op (.F (.bsl 166 12 1 [(.int .i64 0), (.int .i64 0), (.str 0 0), .nils, (.int .i64 0), (.int .i64 0), (.str 0 0), .nils, .nils, .nils, .nils, (.int .i64 0)] [(0, 12, (.st 0))])) true none),
  (.h [5], .op (.W (.app 166 12 (.st 5) (.st 0))) true none),
  (.q, .op (.P (.mv (.st 0))) false (some r1))])
 (.seq (.reg [.el,
  .op (.C (.cf 89 [(.sl r0), (.k (.str 1 59))])) true none,
  .op (.P (.no (.st 0))) false (some r3)])
 (.cond (.sl r3) (.seq (.reg [.el,
  .op (.F (.bsl 9 1 1 [(.str 0 0)] [(0, 1, (.k (.str 1 125)))])) true none,
  .op (.C (.cf 58 [(.sl r0), (.st 0)])) false none])
 (.seq (.reg [.el,
  .op (.P (.mv (.sl r1))) false (some r4)])
 (.ret)))
 (.skip)))))))))))
  [.sl (.sl r4)]

def m185 : SlotMap := [(0, r0), (3, r1), (2, r2), (10, r3), (15, r4)]
def c185 : VFn :=
 VFn.mk [some r0] (.seq (.reg [.op (.F (.al 101 [(.int .i64 0), (.int .i64 0), (.str 0 0), .nils, .nils, .nils, .nils, (.int .i64 0)])) false (some r2)])
 (.seq (.reg [.op (.P (.bld [(.int .i64 0), (.int .i64 0), (.str 0 0), .nils, .nils, .nils, .nils, (.int .i64 0)] [(0, 1, (.k (.int .i64 18))), (1, 1, (.k (.int .i64 (-1))))])) true none,
  .op (.F (.al 101 [(.int .i64 0), (.int .i64 0), (.str 0 0), .nils, .nils, .nils, .nils, (.int .i64 0)])) false (some r1),
  .op (.W (.st 8 (.sl r1) (.st 0))) false none])
 (.seq (.reg [.el,
  .op (.F (.bsl 9 1 1 [(.str 0 0)] [(0, 1, (.k (.str 1 123)))])) true none,
  .op (.C (.cf 58 [(.sl r0), (.st 0)])) false none])
 (.seq (.seq (.reg [.el,
  .op (.C (.cf 89 [(.sl r0), (.k (.str 1 125))])) true none,
  .op (.P (.no (.st 0))) false (some r3)])
 (.cond (.sl r3) (.reg [.el,
  .op (.C (.cf 184 [(.sl r0)])) true none,
  .op (.P (.fa 6 (.sl r1))) true none,
  .op (.W (.st 1 (.st 0) (.st 1))) false none])
 (.skip)))
 (.seq (.seq (.reg [.el,
  .op (.C (.cf 89 [(.sl r0), (.k (.str 5 418330731890))])) false (some r4)])
 (.cond (.sl r4) (.seq (.reg [.el,
  .op (.C (.cf 60 [(.sl r0), (.k (.bool false))])) true none,
  .op (.P (.fa 1 (.sl r1))) true none,
  .op (.W (.st 1 (.st 0) (.st 1))) false none])
 (.seq (.reg [.el,
  .op (.F (.bsl 9 1 1 [(.str 0 0)] [(0, 1, (.k (.str 2 15678)))])) true none,
  .op (.C (.cf 58 [(.sl r0), (.st 0)])) false none])
 (.reg [.el,
  .op (.C (.cf 103 [(.sl r0)])) true none,
  .op (.F (.bsl 101 8 1 [(.int .i64 0), (.int .i64 0), (.str 0 0), .nils, .nils, .nils, .nils, (.int .i64 0)] [(0, 8, (.st 0))])) true none,
  .op (.P (.fa 5 (.sl r1))) true none,
  .op (.W (.st 1 (.st 0) (.st 1))) false none])))
 (.skip)))
 (.seq (.reg [.op (.R (.ld 8 true (.sl r1))) true none,
  .op (.W (.st 8 (.sl r2) (.st 0))) false none])
 (.ret)))))))
  [.cell (.sl r2) 8 true]

def m186 : SlotMap := [(0, r0), (4, r1), (5, r2), (1, r3), (6, r4)]
def c186 : VFn :=
 VFn.mk [some r0, some r3] (.seq (.reg [.op (.F (.al 101 [(.int .i64 0), (.int .i64 0), (.str 0 0), .nils, .nils, .nils, .nils, (.int .i64 0)])) false (some r1)])
 (.seq (.reg [.el,
  .op (.F (.bsl 9 1 1 [(.str 0 0)] [(0, 1, (.k (.str 1 40)))])) true none,
  .op (.C (.cf 58 [(.sl r0), (.st 0)])) false none])
 (.seq (.reg [.el,
  .op (.C (.cf 103 [(.sl r0)])) true none,
  .op (.F (.al 101 [(.int .i64 0), (.int .i64 0), (.str 0 0), .nils, .nils, .nils, .nils, (.int .i64 0)])) false (some r2),
  .op (.W (.st 8 (.sl r2) (.st 0))) false none])
 (.seq (.reg [.el,
  .op (.F (.bsl 9 1 1 [(.str 0 0)] [(0, 1, (.k (.str 1 44)))])) true none,
  .op (.C (.cf 58 [(.sl r0), (.st 0)])) false none])
 (.seq (.dreg [(.q, .op (.P (.mv (.sl r3))) true none),
  (.r 0 1, .op (.R (.ld 8 true (.sl r2))) true none),
  (.q, .op (.P (.mv (.sl r0))) true none),
  (.h [], .op (.C (.cf 103 [(.st 0)])) true none),
  (.h [], .op (.F (.bsl 101 8 2 [(.int .i64 0), (.int .i64 0), (.str 0 0), .nils, .nils, .nils, .nils, (.int .i64 0), (.int .i64 0), (.int .i64 0), (.str 0 0), .nils, .nils, .nils, .nils, (.int .i64 0)] [(0, 8, (.st 2)), (8, 8, (.st 0))])) true none),
  (.q, .op (.P (.bld [(.int .i64 0), (.int .i64 0), (.str 0 0), .nils, .nils, .nils, .nils, (.int .i64 0)] [(0, 1, (.st 4)), (5, 1, (.st 0))])) true none),
  (.f, .op (.F (.al 101 [(.int .i64 0), (.int .i64 0), (.str 0 0), .nils, .nils, .nils, .nils, (.int .i64 0)])) false (some r4)),
  (.h [6], .op (.W (.st 8 (.sl r4) (.st 0))) false none)])
 (.seq (.reg [.el,
  .op (.F (.bsl 9 1 1 [(.str 0 0)] [(0, 1, (.k (.str 1 41)))])) true none,
  .op (.C (.cf 58 [(.sl r0), (.st 0)])) false none])
 (.seq (.reg [.op (.R (.ld 8 true (.sl r4))) true none,
  .op (.W (.st 8 (.sl r1) (.st 0))) false none])
 (.ret))))))))
  [.cell (.sl r1) 8 true]

def m187 : SlotMap := [(3, r0), (0, r1), (4, r2), (6, r3), (8, r4), (10, r5), (12, r6), (14, r7), (2, r8)]
def c187 : VFn :=
 VFn.mk [some r1] (.seq (.reg [.op (.P (.mv (.k (.int .i64 0)))) false (some r8)])
 (.seq (.seq (.reg [.op (.P (.mv (.sl r1))) false (some r0)])
 (.block 0 (.seq (.reg [.op (.P (.cms .eql (.sl r0) (.k (.str 4 1717660012)))) true none,
  .op (.P (.mv (.st 0))) false (some r2)])
 (.cond (.sl r2) (.seq (.reg [.op (.P (.mv (.k (.int .i64 19)))) false (some r8)])
 (.ret))
 (.seq (.reg [.op (.P (.cms .eql (.sl r0) (.k (.str 3 7561593)))) true none,
  .op (.P (.mv (.st 0))) false (some r3)])
 (.cond (.sl r3) (.seq (.reg [.op (.P (.mv (.k (.int .i64 20)))) false (some r8)])
 (.ret))
 (.seq (.reg [.op (.P (.cms .eql (.sl r0) (.k (.str 4 1667591276)))) true none,
  .op (.P (.mv (.st 0))) false (some r4)])
 (.cond (.sl r4) (.seq (.reg [.op (.P (.mv (.k (.int .i64 21)))) false (some r8)])
 (.ret))
 (.seq (.reg [.op (.P (.cms .eql (.sl r0) (.k (.str 3 6776180)))) true none,
  .op (.P (.mv (.st 0))) false (some r5)])
 (.cond (.sl r5) (.seq (.reg [.op (.P (.mv (.k (.int .i64 22)))) false (some r8)])
 (.ret))
 (.seq (.reg [.op (.P (.cms .eql (.sl r0) (.k (.str 5 512736125800)))) true none,
  .op (.P (.mv (.st 0))) false (some r6)])
 (.cond (.sl r6) (.seq (.reg [.op (.P (.mv (.k (.int .i64 24)))) false (some r8)])
 (.ret))
 (.seq (.reg [.op (.P (.cms .eql (.sl r0) (.k (.str 4 1818848875)))) true none,
  .op (.P (.mv (.st 0))) false (some r7)])
 (.cond (.sl r7) (.seq (.reg [.op (.P (.mv (.k (.int .i64 25)))) false (some r8)])
 (.ret))
 (.skip)))))))))))))))
 (.seq (.reg [.op (.P (.mv (.k (.int .i64 0)))) false (some r8)])
 (.ret))))
  [.sl (.sl r8)]

def m188 : SlotMap := [(13, r0), (0, r1), (1, r2), (8, r3), (12, r4), (14, r5), (11, r6), (6, r7), (19, r8), (4, r9)]
def c188 : VFn :=
 VFn.mk [some r1, some r2] (.seq (.reg [.op (.P (.mv (.k (.bool false)))) false (some r9)])
 (.seq (.seq (.reg [.el,
  .op (.P (.cms .eql (.sl r1) (.k (.str 3 7237492)))) false (some r3)])
 (.cond (.sl r3) (.seq (.reg [.el,
  .op (.P (.cmi .eql (.sl r2) (.k (.int .i64 1)))) true none,
  .op (.P (.mv (.st 0))) false (some r9)])
 (.ret))
 (.skip)))
 (.seq (.seq (.reg [.op (.C (.cf 150 [(.k (.str 22 16135235698011369328224916392565237735980387883052914)), (.k (.str 1 32))])) false (some r6),
  .op (.P (.ln 1 (.sl r6))) false (some r4),
  .op (.P (.mv (.k (.int .i64 0)))) false (some r0)])
 (.block 0 (.loop (.seq (.reg [.op (.P (.cmi .lss (.sl r0) (.sl r4))) false (some r5)])
 (.seq (.cond (.sl r5) (.skip)
 (.exit 0))
 (.seq (.block 1 (.seq (.reg [.op (.P (.ia 1 (.sl r6) (.sl r0))) true none,
  .op (.R (.ld 1 false (.st 0))) true none,
  .op (.P (.mv (.st 0))) false (some r7)])
 (.seq (.reg [.el,
  .el,
  .op (.P (.cms .eql (.sl r7) (.sl r1))) false (some r8)])
 (.cond (.sl r8) (.seq (.reg [.el,
  .op (.P (.cmi .eql (.sl r2) (.k (.int .i64 2)))) true none,
  .op (.P (.mv (.st 0))) false (some r9)])
 (.ret))
 (.skip)))))
 (.reg [.op (.P (.ar .add (.sl r0) (.k (.int .i64 1)))) true none,
  .op (.P (.mv (.st 0))) false (some r0)])))))))
 (.seq (.reg [.op (.P (.mv (.k (.bool false)))) false (some r9)])
 (.ret)))))
  [.sl (.sl r9)]

def m189 : SlotMap := [(10, r0), (7, r1), (0, r2), (9, r3), (11, r4), (8, r5), (6, r6), (1, r7), (18, r8), (4, r9)]
def c189 : VFn :=
 VFn.mk [some r2, some r7] (.seq (.reg [.op (.P (.mv (.k (.int .i64 0)))) false (some r9)])
 (.seq (.seq (.reg [.op (.P (.mv (.sl r2))) false (some r5),
  .op (.P (.ln 1 (.sl r5))) false (some r3),
  .op (.P (.mv (.k (.int .i64 0)))) false (some r0)])
 (.block 0 (.loop (.seq (.reg [.op (.P (.cmi .lss (.sl r0) (.sl r3))) false (some r4)])
 (.seq (.cond (.sl r4) (.skip)
 (.exit 0))
 (.seq (.block 1 (.seq (.reg [.op (.P (.ia 4 (.sl r5) (.sl r0))) true none,
  .op (.R (.ld 4 true (.st 0))) true none,
  .op (.F (.al 164 [(.int .i64 0), (.int .i64 0), (.str 0 0), .nils])) false (some r6),
  .op (.W (.st 4 (.sl r6) (.st 0))) false none])
 (.seq (.reg [.el,
  .op (.R (.ld 4 true (.sl r6))) true none,
  .op (.C (.cv (.sl r7) [(.st 0)])) true none,
  .op (.P (.mv (.st 0))) false (some r1)])
 (.seq (.reg [.el,
  .op (.P (.cmi .neq (.sl r1) (.k (.int .i64 0)))) false (some r8)])
 (.cond (.sl r8) (.seq (.reg [.el,
  .op (.P (.mv (.sl r1))) false (some r9)])
 (.ret))
 (.skip))))))
 (.reg [.op (.P (.ar .add (.sl r0) (.k (.int .i64 1)))) true none,
  .op (.P (.mv (.st 0))) false (some r0)])))))))
 (.seq (.reg [.op (.P (.mv (.k (.int .i64 0)))) false (some r9)])
 (.ret))))
  [.sl (.sl r9)]

def m190 : SlotMap := [(0, r0), (1, r1), (7, r2), (6, r3), (5, r4), (9, r5), (18, r6), (25, r7), (43, r8), (4, r9)]
def c190 : VFn :=
 VFn.mk [some r0, some r1] (.seq (.reg [.op (.P (.mv (.k .nils))) false (some r9)])
 (.seq (.reg [.el,
  .op (.C (.cf 78 [(.sl r0)])) true none,
  .op (.P (.mv (.st 0))) false (some r4)])
 (.seq (.seq (.reg [.el,
  .op (.P (.cmi .lss (.sl r1) (.k (.int .i64 0)))) true none,
  .el,
  .op (.G (.st 0) false (.P (.mv (.sl r1)))) true none,
  .op (.G (.st 1) false (.P (.mv (.sl r4)))) true none,
  .op (.G (.st 2) false (.P (.cmi .gtr (.st 1) (.st 0)))) true none,
  .op (.P (.pick (.st 3) (.k (.bool true)) (.st 0))) false (some r6)])
 (.cond (.sl r6) (.reg [.el,
  .op (.P (.mv (.sl r4))) false (some r1)])
 (.skip)))
 (.seq (.reg [.el,
  .op (.W (.mks 9 1 16 [(.str 0 0)] (.sl r1) (.sl r1))) true none,
  .op (.P (.mv (.st 0))) false (some r3)])
 (.seq (.seq (.reg [.op (.P (.mv (.k (.int .i64 0)))) false (some r2)])
 (.block 0 (.loop (.seq (.seq (.reg [.el,
  .el,
  .op (.P (.ar .sub (.sl r1) (.k (.int .i64 1)))) true none,
  .op (.P (.cmi .lss (.sl r2) (.st 0))) false (some r7)])
 (.cond (.sl r7) (.skip)
 (.exit 0)))
 (.seq (.block 1 (.seq (.reg [.el,
  .op (.C (.cf 193 [(.sl r0)])) true none,
  .el,
  .op (.P (.ext 0 (.st 0))) true none,
  .op (.P (.ext 1 (.st 1))) true none,
  .op (.P (.mv (.st 1))) false none,
  .op (.P (.mv (.st 0))) false (some r5)])
 (.seq (.reg [.el,
  .el,
  .el,
  .el,
  .op (.P (.sls (.sl r0) none (some (.sl r5)))) true none,
  .op (.P (.ia 1 (.sl r3) (.sl r2))) true none,
  .op (.W (.st 1 (.st 0) (.st 1))) false none])
 (.reg [.op (.P (.mv (.sl r0))) true none,
  .el,
  .op (.P (.sls (.st 0) (some (.sl r5)) none)) true none,
  .op (.P (.mv (.st 0))) false (some r0)]))))
 (.reg [.op (.P (.mv (.sl r2))) true none,
  .op (.P (.ar .add (.st 0) (.k (.int .i64 1)))) true none,
  .op (.P (.mv (.st 0))) false (some r2)]))))))
 (.seq (.seq (.reg [.el,
  .op (.P (.cmi .gtr (.sl r1) (.k (.int .i64 0)))) false (some r8)])
 (.cond (.sl r8) (.reg [.el,
  .el,
  .op (.P (.ar .sub (.sl r1) (.k (.int .i64 1)))) true none,
  .el,
  .op (.P (.ia 1 (.sl r3) (.st 0))) true none,
  .op (.W (.st 1 (.st 0) (.sl r0))) false none])
 (.skip)))
 (.seq (.reg [.el,
  .op (.P (.mv (.sl r3))) false (some r9)])
 (.ret))))))))
  [.sl (.sl r9)]

def m191 : SlotMap := [(0, r0), (2, r1)]
def c191 : VFn :=
 VFn.mk [some r0] (.seq (.reg [.op (.P (.mv (.k (.str 0 0)))) false (some r1)])
 (.seq (.reg [.el,
  .op (.C (.cf 194 [(.sl r0), (.k (.int .i64 10))])) true none,
  .op (.P (.mv (.st 0))) false (some r1)])
 (.ret)))
  [.sl (.sl r1)]

def m192 : SlotMap := [(0, r0), (2, r1), (3, r2), (6, r3), (10, r4), (14, r5), (18, r6), (25, r7), (36, r8)]
def c192 : VFn :=
 VFn.mk [some r0] (.seq (.reg [.op (.F (.al 164 [(.int .i64 0), (.int .i64 0), (.str 0 0), .nils])) false (some r1)])
 (.seq (.reg [.el,
  .op (.C (.cf 92 [(.sl r0)])) true none,
  .op (.F (.al 182 [(.int .i64 0), (.str 0 0), (.int .i64 0)])) false (some r2),
  .op (.W (.st 3 (.sl r2) (.st 0))) false none])
 (.seq (.block 0 (.seq (.reg [.el,
  .op (.C (.cf 89 [(.sl r0), (.k (.str 1 95))])) true none,
  .op (.P (.mv (.st 0))) false (some r3)])
 (.cond (.sl r3) (.seq (.reg [.op (.P (.bld [(.int .i64 0), (.int .i64 0), (.str 0 0), .nils] [(0, 1, (.k (.int .i64 1)))])) true none,
  .op (.W (.st 4 (.sl r1) (.st 0))) false none])
 (.ret))
 (.seq (.reg [.el,
  .op (.C (.cf 89 [(.sl r0), (.k (.str 4 1953658213))])) true none,
  .op (.P (.mv (.st 0))) false (some r4)])
 (.cond (.sl r4) (.seq (.reg [.op (.P (.bld [(.int .i64 0), (.int .i64 0), (.str 0 0), .nils] [(0, 1, (.k (.int .i64 4))), (1, 1, (.k (.int .i64 1)))])) true none,
  .op (.W (.st 4 (.sl r1) (.st 0))) false none])
 (.ret))
 (.seq (.reg [.el,
  .op (.C (.cf 89 [(.sl r0), (.k (.str 5 439721161573))])) true none,
  .op (.P (.mv (.st 0))) false (some r5)])
 (.cond (.sl r5) (.seq (.reg [.op (.P (.bld [(.int .i64 0), (.int .i64 0), (.str 0 0), .nils] [(0, 1, (.k (.int .i64 4)))])) true none,
  .op (.W (.st 4 (.sl r1) (.st 0))) false none])
 (.ret))
 (.seq (.reg [.op (.P (.fa 0 (.sl r2))) true none,
  .op (.R (.ld 1 false (.st 0))) true none,
  .op (.P (.cmi .eql (.st 0) (.k (.int .i64 1)))) true none,
  .op (.P (.mv (.st 0))) false (some r6)])
 (.cond (.sl r6) (.seq (.reg [.el,
  .op (.C (.cf 59 [(.sl r0)])) true none,
  .op (.P (.bld [(.int .i64 0), (.int .i64 0), (.str 0 0), .nils] [(0, 1, (.k (.int .i64 2))), (2, 1, (.st 0))])) true none,
  .op (.W (.st 4 (.sl r1) (.st 0))) false none])
 (.ret))
 (.seq (.reg [.op (.P (.fa 0 (.sl r2))) true none,
  .op (.R (.ld 1 false (.st 0))) true none,
  .op (.P (.cmi .eql (.st 0) (.k (.int .i64 4)))) true none,
  .el,
  .op (.G (.st 0) false (.P (.mv (.sl r0)))) true none,
  .op (.G (.st 1) false (.C (.cf 126 [(.st 0), (.k (.str 1 45))]))) true none,
  .op (.P (.pick (.st 2) (.k (.bool true)) (.st 0))) true none,
  .op (.P (.mv (.st 0))) false (some r7)])
 (.cond (.sl r7) (.seq (.reg [.el,
  .op (.C (.cf 60 [(.sl r0), (.k (.bool true))])) true none,
  .op (.P (.bld [(.int .i64 0), (.int .i64 0), (.str 0 0), .nils] [(0, 1, (.k (.int .i64 3))), (1, 1, (.st 0))])) true none,
  .op (.W (.st 4 (.sl r1) (.st 0))) false none])
 (.ret))
 (.seq (.reg [.op (.P (.fa 0 (.sl r2))) true none,
  .op (.R (.ld 1 false (.st 0))) true none,
  .op (.P (.cmi .eql (.st 0) (.k (.int .i64 5)))) true none,
  .op (.P (.mv (.st 0))) false (some r8)])
 (.cond (.sl r8) (.seq (.reg [.el,
  .op (.P (.nn (.sl r0))) true none,
  .op (.P (.fa 1 (.st 0))) true none,
  .op (.R (.ld 1 false (.st 0))) true none,
  .op (.P (.ar .add (.st 0) (.k (.int .i64 1)))) true none,
  .op (.P (.nn (.sl r0))) true none,
  .op (.P (.fa 1 (.st 0))) true none,
  .op (.W (.st 1 (.st 0) (.st 2))) false none])
 (.seq (.reg [.op (.P (.fa 1 (.sl r2))) true none,
  .op (.R (.ld 1 false (.st 0))) true none,
  .op (.P (.bld [(.int .i64 0), (.int .i64 0), (.str 0 0), .nils] [(0, 1, (.k (.int .i64 5))), (2, 1, (.st 0))])) true none,
  .op (.W (.st 4 (.sl r1) (.st 0))) false none])
 (.ret)))
 (.skip))))))))))))))
 (.seq (.reg [.el,
  .op (.C (.cf 95 [(.sl r0)])) true none,
  .el,
  .el,
  .op (.P (.mkf 192 [(.sl r0)] [])) true none,
  .op (.C (.cf 195 [(.sl r0), (.st 0)])) true none,
  .op (.P (.bld [(.int .i64 0), (.int .i64 0), (.str 0 0), .nils] [(0, 1, (.k (.int .i64 6))), (2, 1, (.st 2)), (3, 1, (.st 0))])) true none,
  .op (.W (.st 4 (.sl r1) (.st 0))) false none])
 (.ret)))))
  [.cell (.sl r1) 4 true]

def m193 : SlotMap := [(0, r0), (10, r1), (2, r2), (3, r3)]
def c193 : VFn :=
 VFn.mk [some r0] (.seq (.reg [.op (.P (.mv (.k (.int .i32 0)))) false (some r2),
  .op (.P (.mv (.k (.int .i64 0)))) false (some r3)])
 (.seq (.seq (.reg [.el,
  .op (.P (.cms .neq (.sl r0) (.k (.str 0 0)))) true none,
  .el,
  .op (.G (.st 0) true (.P (.mv (.sl r0)))) true none,
  .op (.G (.st 1) true (.P (.idxs (.st 0) (.k (.int .i64 0))))) true none,
  .op (.G (.st 2) true (.P (.cmi .lss (.st 0) (.k (.int .u8 128))))) true none,
  .op (.P (.pick (.st 3) (.st 0) (.k (.bool false)))) false (some r1)])
 (.cond (.sl r1) (.seq (.reg [.el,
  .op (.P (.idxs (.sl r0) (.k (.int .i64 0)))) true none,
  .op (.P (.cvi .i32 (.st 0))) true none,
  .op (.P (.mv (.st 0))) false (some r2),
  .op (.P (.mv (.k (.int .i64 1)))) false (some r3)])
 (.ret))
 (.reg [.el,
  .op (.C (.cf 196 [(.sl r0)])) true none,
  .el,
  .op (.P (.ext 0 (.st 0))) true none,
  .op (.P (.ext 1 (.st 1))) true none,
  .op (.P (.mv (.st 1))) false (some r2),
  .op (.P (.mv (.st 0))) false (some r3)])))
 (.ret)))
  [.sl (.sl r2), .sl (.sl r3)]

def m195 : SlotMap := [(0, r0), (8, r1), (1, r2), (5, r3), (4, r4)]
def c195 : VFn :=
 VFn.mk [some r0, some r2] (.seq (.reg [.op (.P (.mv (.k .nils))) false (some r4)])
 (.seq (.seq (.reg [.el,
  .op (.C (.cf 89 [(.sl r0), (.k (.str 1 40))])) true none,
  .op (.P (.no (.st 0))) false (some r1)])
 (.cond (.sl r1) (.seq (.reg [.op (.P (.mv (.k .nils))) false (some r4)])
 (.ret))
 (.skip)))
 (.seq (.reg [.el,
  .el,
  .op (.C (.cf 201 [(.sl r0), (.sl r2)])) true none,
  .op (.P (.mv (.st 0))) false (some r3)])
 (.seq (.reg [.el,
  .op (.F (.bsl 9 1 1 [(.str 0 0)] [(0, 1, (.k (.str 1 41)))])) true none,
  .op (.C (.cf 58 [(.sl r0), (.st 0)])) false none])
 (.seq (.reg [.el,
  .op (.P (.mv (.sl r3))) false (some r4)])
 (.ret))))))
  [.sl (.sl r4)]

def m196 : SlotMap := [(0, r0), (5, r1), (6, r2), (10, r3), (8, r4), (11, r5), (4, r6), (12, r7), (16, r8), (23, r9), (7, r10), (45, r11), (9, r12), (57, r13), (59, r14), (75, r15), (77, r16), (98, r17), (2, r18), (3, r19)]
def c196 : VFn :=
 VFn.mk [some r0] (.seq (.reg [.op (.P (.mv (.k (.int .i32 0)))) false (some r18),
  .op (.P (.mv (.k (.int .i64 0)))) false (some r19)])
 (.seq (.reg [.el,
  .op (.P (.ln 0 (.sl r0))) true none,
  .op (.P (.mv (.st 0))) false (some r6)])
 (.seq (.seq (.reg [.el,
  .op (.P (.cmi .lss (.sl r6) (.k (.int .i64 1)))) false (some r8)])
 (.cond (.sl r8) (.seq (.reg [.op (.P (.mv (.k (.int .i32 65533)))) false (some r18),
  .op (.P (.mv (.k (.int .i64 0)))) false (some r19)])
 (.ret))
 (.skip)))
 (.seq (.reg [.el,
  .op (.P (.idxs (.sl r0) (.k (.int .i64 0)))) true none,
  .op (.P (.mv (.st 0))) false (some r1)])
 (.seq (.reg [.el,
  .op (.P (.iaa 256 1 (.k (.ptr r3 0)) (.sl r1))) true none,
  .op (.R (.ld 1 false (.st 0))) true none,
  .op (.P (.mv (.st 0))) false (some r2)])
 (.seq (.seq (.reg [.el,
  .op (.P (.cmi .geq (.sl r2) (.k (.int .u8 240)))) false (some r9)])
 (.cond (.sl r9) (.seq (.reg [.el,
  .op (.P (.cvi .i32 (.sl r2))) true none,
  .op (.P (.ar .shl (.st 0) (.k (.int .u64 31)))) true none,
  .op (.P (.ar .shr (.st 0) (.k (.int .u64 31)))) true none,
  .op (.P (.mv (.st 0))) false (some r10)])
 (.seq (.reg [.el,
  .op (.P (.idxs (.sl r0) (.k (.int .i64 0)))) true none,
  .op (.P (.cvi .i32 (.st 0))) true none,
  .el,
  .op (.P (.ar .andNot (.st 0) (.sl r10))) true none,
  .el,
  .op (.P (.ar .and (.k (.int .i32 65533)) (.sl r10))) true none,
  .op (.P (.ar .or (.st 1) (.st 0))) true none,
  .op (.P (.mv (.st 0))) false (some r18),
  .op (.P (.mv (.k (.int .i64 1)))) false (some r19)])
 (.ret)))
 (.skip)))
 (.seq (.reg [.el,
  .op (.P (.ar .and (.sl r2) (.k (.int .u8 7)))) true none,
  .op (.P (.cvi .i64 (.st 0))) true none,
  .op (.P (.mv (.st 0))) false (some r4)])
 (.seq (.reg [.el,
  .op (.P (.ar .shr (.sl r2) (.k (.int .u64 4)))) true none,
  .op (.P (.iaa 16 2 (.k (.ptr r4 0)) (.st 0))) true none,
  .op (.R (.ld 2 true (.st 0))) true none,
  .op (.F (.al 316 [(.int .u8 0), (.int .u8 0)])) false (some r12),
  .op (.W (.st 2 (.sl r12) (.st 0))) false none])
 (.seq (.seq (.reg [.el,
  .el,
  .op (.P (.cmi .lss (.sl r6) (.sl r4))) false (some r11)])
 (.cond (.sl r11) (.seq (.reg [.op (.P (.mv (.k (.int .i32 65533)))) false (some r18),
  .op (.P (.mv (.k (.int .i64 1)))) false (some r19)])
 (.ret))
 (.skip)))
 (.seq (.reg [.el,
  .op (.P (.idxs (.sl r0) (.k (.int .i64 1)))) true none,
  .op (.P (.mv (.st 0))) false (some r3)])
 (.seq (.seq (.reg [.el,
  .op (.P (.fa 0 (.sl r12))) true none,
  .op (.R (.ld 1 false (.st 0))) true none,
  .op (.P (.cmi .lss (.sl r3) (.st 0))) true none,
  .el,
  .op (.G (.st 0) false (.P (.fa 1 (.sl r12)))) true none,
  .op (.G (.st 1) false (.R (.ld 1 false (.st 0)))) true none,
  .op (.G (.st 2) false (.P (.mv (.sl r3)))) true none,
  .op (.G (.st 3) false (.P (.cmi .lss (.st 1) (.st 0)))) true none,
  .op (.P (.pick (.st 4) (.k (.bool true)) (.st 0))) false (some r13)])
 (.cond (.sl r13) (.seq (.reg [.op (.P (.mv (.k (.int .i32 65533)))) false (some r18),
  .op (.P (.mv (.k (.int .i64 1)))) false (some r19)])
 (.ret))
 (.skip)))
 (.seq (.seq (.reg [.el,
  .op (.P (.cmi .leq (.sl r4) (.k (.int .i64 2)))) false (some r14)])
 (.cond (.sl r14) (.seq (.reg [.el,
  .op (.P (.ar .and (.sl r1) (.k (.int .u8 31)))) true none,
  .op (.P (.cvi .i32 (.st 0))) true none,
  .op (.P (.ar .shl (.st 0) (.k (.int .u64 6)))) true none,
  .el,
  .op (.P (.ar .and (.sl r3) (.k (.int .u8 63)))) true none,
  .op (.P (.cvi .i32 (.st 0))) true none,
  .op (.P (.ar .or (.st 2) (.st 0))) true none,
  .op (.P (.mv (.st 0))) false (some r18),
  .op (.P (.mv (.k (.int .i64 2)))) false (some r19)])
 (.ret))
 (.skip)))
 (.seq (.reg [.el,
  .op (.P (.idxs (.sl r0) (.k (.int .i64 2)))) true none,
  .op (.P (.mv (.st 0))) false (some r5)])
 (.seq (.seq (.reg [.el,
  .op (.P (.cmi .lss (.sl r5) (.k (.int .u8 128)))) true none,
  .el,
  .op (.G (.st 0) false (.P (.mv (.sl r5)))) true none,
  .op (.G (.st 1) false (.P (.cmi .lss (.k (.int .u8 191)) (.st 0)))) true none,
  .op (.P (.pick (.st 2) (.k (.bool true)) (.st 0))) false (some r15)])
 (.cond (.sl r15) (.seq (.reg [.op (.P (.mv (.k (.int .i32 65533)))) false (some r18),
  .op (.P (.mv (.k (.int .i64 1)))) false (some r19)])
 (.ret))
 (.skip)))
 (.seq (.seq (.reg [.el,
  .op (.P (.cmi .leq (.sl r4) (.k (.int .i64 3)))) false (some r16)])
 (.cond (.sl r16) (.seq (.reg [.el,
  .op (.P (.ar .and (.sl r1) (.k (.int .u8 15)))) true none,
  .op (.P (.cvi .i32 (.st 0))) true none,
  .op (.P (.ar .shl (.st 0) (.k (.int .u64 12)))) true none,
  .el,
  .op (.P (.ar .and (.sl r3) (.k (.int .u8 63)))) true none,
  .op (.P (.cvi .i32 (.st 0))) true none,
  .op (.P (.ar .shl (.st 0) (.k (.int .u64 6)))) true none,
  .op (.P (.ar .or (.st 3) (.st 0))) true none,
  .el,
  .op (.P (.ar .and (.sl r5) (.k (.int .u8 63)))) true none,
  .op (.P (.cvi .i32 (.st 0))) true none,
  .op (.P (.ar .or (.st 2) (.st 0))) true none,
  .op (.P (.mv (.st 0))) false (some r18),
  .op (.P (.mv (.k (.int .i64 3)))) false (some r19)])
 (.ret))
 (.skip)))
 (.seq (.reg [.el,
  .op (.P (.idxs (.sl r0) (.k (.int .i64 3)))) true none,
  .op (.P (.mv (.st 0))) false (some r7)])
 (.seq (.seq (.reg [.el,
  .op (.P (.cmi .lss (.sl r7) (.k (.int .u8 128)))) true none,
  .el,
  .op (.G (.st 0) false (.P (.mv (.sl r7)))) true none,
  .op (.G (.st 1) false (.P (.cmi .lss (.k (.int .u8 191)) (.st 0)))) true none,
  .op (.P (.pick (.st 2) (.k (.bool true)) (.st 0))) false (some r17)])
 (.cond (.sl r17) (.seq (.reg [.op (.P (.mv (.k (.int .i32 65533)))) false (some r18),
  .op (.P (.mv (.k (.int .i64 1)))) false (some r19)])
 (.ret))
 (.skip)))
 (.seq (.reg [.el,
  .op (.P (.ar .and (.sl r1) (.k (.int .u8 7)))) true none,
  .op (.P (.cvi .i32 (.st 0))) true none,
  .op (.P (.ar .shl (.st 0) (.k (.int .u64 18)))) true none,
  .el,
  .op (.P (.ar .and (.sl r3) (.k (.int .u8 63)))) true none,
  .op (.P (.cvi .i32 (.st 0))) true none,
  .op (.P (.ar .shl (.st 0) (.k (.int .u64 12)))) true none,
  .op (.P (.ar .or (.st 3) (.st 0))) true none,
  .el,
  .op (.P (.ar .and (.sl r5) (.k (.int .u8 63)))) true none,
  .op (.P (.cvi .i32 (.st 0))) true none,
  .op (.P (.ar .shl (.st 0) (.k (.int .u64 6)))) true none,
  .op (.P (.ar .or (.st 3) (.st 0))) true none,
  .el,
  .op (.P (.ar .and (.sl r7) (.k (.int .u8 63)))) true none,
  .op (.P (.cvi .i32 (.st 0))) true none,
  .op (.P (.ar .or (.st 2) (.st 0))) true none,
  .op (.P (.mv (.st 0))) false (some r18),
  .op (.P (.mv (.k (.int .i64 4)))) false (some r19)])
 (.ret)))))))))))))))))))
  [.sl (.sl r18), .sl (.sl r19)]

def m197 : SlotMap := [(0, r0), (4, r1), (2, r2)]
def c197 : VFn :=
 VFn.mk [some r0] (.seq (.reg [.op (.P (.mv (.k (.str 0 0)))) false (some r2)])
 (.seq (.seq (.reg [.el,
  .op (.P (.cmi .lss (.sl r0) (.k (.int .i64 10)))) false (some r1)])
 (.cond (.sl r1) (.seq (.reg [.el,
  .el,
  .op (.P (.ar .add (.sl r0) (.k (.int .i64 1)))) true none,
  .op (.P (.sls (.k (.str 36 93621433862240650313326231306435056417042768930449266319129758623240466503934737414522)) (some (.sl r0)) (some (.st 0)))) true none,
  .op (.P (.mv (.st 0))) false (some r2)])
 (.ret))
 (.skip)))
 (.seq (.reg [.el,
  .op (.P (.ar .mul (.sl r0) (.k (.int .i64 2)))) true none,
  .el,
  .op (.P (.ar .mul (.sl r0) (.k (.int .i64 2)))) true none,
  .op (.P (.ar .add (.st 0) (.k (.int .i64 2)))) true none,
  .op (.P (.sls (.k (.str 200 8369396053099643259884660439900312228746471110943504458504829912206407100469475510520505676855750014530596077689858408204562721349408824591789441711103775826291439126061900675989976254244761425382494394669896706626295868329681710377411642562040512013377776180902291979747008038411282346274188424097310996521951660972735479027990947060043115083917949168200323041593656569302669535377774123378085539195783572932112166539323561441937920580889744256865042652178519653545620815178381625)) (some (.st 2)) (some (.st 0)))) true none,
  .op (.P (.mv (.st 0))) false (some r2)])
 (.ret))))
  [.sl (.sl r2)]

def m198 : SlotMap := [(0, r0), (3, r1), (2, r2)]
def c198 : VFn :=
 VFn.mk [some r0] (.seq (.reg [.op (.P (.mv (.k (.int .i64 0)))) false (some r2)])
 (.seq (.reg [.el,
  .op (.C (.cf 203 [(.sl r0)])) true none,
  .op (.C (.cf 202 [(.st 0)])) true none,
  .op (.P (.mv (.st 0))) false (some r1)])
 (.seq (.reg [.el,
  .el,
  .el,
  .op (.P (.iaa 20 1 (.k (.ptr r5 0)) (.sl r1))) true none,
  .op (.R (.ld 1 false (.st 0))) true none,
  .op (.P (.cmi .geq (.sl r0) (.st 0))) true none,
  .op (.C (.cf 204 [(.st 0)])) true none,
  .op (.P (.ar .add (.sl r1) (.st 0))) true none,
  .op (.P (.mv (.st 0))) false (some r2)])
 (.ret))))
  [.sl (.sl r2)]

def m199 : SlotMap := [(4, r0), (0, r1), (12, r2), (1, r3), (20, r4), (5, r5), (7, r6), (6, r7), (9, r8), (8, r9), (11, r10), (10, r11), (99, r12), (13, r13), (15, r14), (14, r15), (139, r16), (16, r17), (161, r18)]
def c199 : VFn :=
 VFn.mk [some r1, some r3] (.seq (.reg [.el,
  .op (.P (.ln 1 (.sl r1))) true none,
  .op (.P (.mv (.st 0))) false (some r0)])
 (.seq (.block 0 (.loop (.seq (.seq (.reg [.el,
  .op (.P (.cmi .geq (.sl r0) (.k (.int .i64 8)))) false (some r4)])
 (.cond (.sl r4) (.skip)
 (.exit 0)))
 (.block 1 (.seq (.reg [.el,
  .op (.P (.ar .rem (.sl r3) (.k (.int .u64 100000000)))) true none,
  .op (.P (.cvi .u32 (.st 0))) true none,
  .op (.P (.mv (.st 0))) false (some r5)])
 (.seq (.reg [.op (.P (.mv (.sl r3))) true none,
  .op (.P (.ar .quo (.st 0) (.k (.int .u64 100000000)))) true none,
  .op (.P (.mv (.st 0))) false (some r3)])
 (.seq (.reg [.el,
  .op (.P (.ar .quo (.sl r5) (.k (.int .u32 10000)))) true none,
  .el,
  .op (.P (.ar .rem (.sl r5) (.k (.int .u32 10000)))) true none,
  .op (.P (.mv (.st 1))) false (some r7),
  .op (.P (.mv (.st 0))) false (some r6)])
 (.seq (.reg [.el,
  .op (.P (.ar .quo (.sl r6) (.k (.int .u32 100)))) true none,
  .op (.P (.ar .mul (.st 0) (.k (.int .u32 2)))) true none,
  .el,
  .op (.P (.ar .rem (.sl r6) (.k (.int .u32 100)))) true none,
  .op (.P (.ar .mul (.st 0) (.k (.int .u32 2)))) true none,
  .op (.P (.mv (.st 2))) false (some r9),
  .op (.P (.mv (.st 0))) false (some r8)])
 (.seq (.reg [.el,
  .op (.P (.ar .quo (.sl r7) (.k (.int .u32 100)))) true none,
  .op (.P (.ar .mul (.st 0) (.k (.int .u32 2)))) true none,
  .el,
  .op (.P (.ar .rem (.sl r7) (.k (.int .u32 100)))) true none,
  .op (.P (.ar .mul (.st 0) (.k (.int .u32 2)))) true none,
  .op (.P (.mv (.st 2))) false (some r11),
  .op (.P (.mv (.st 0))) false (some r10)])
 (.seq (.dreg [(.q, .op (.P (.mv (.sl r1))) true none),
  (.q, .op (.P (.mv (.sl r0))) true none),
  (.q, .op (.P (.ar .sub (.st 0) (.k (.int .i64 1)))) true none),
  (.q, .op (.P (.mv (.sl r1))) true none),
  (.q, .op (.P (.mv (.sl r0))) true none),
  (.q, .op (.P (.ar .sub (.st 0) (.k (.int .i64 2)))) true none),
  (.q, .op (.P (.mv (.sl r8))) true none),
  (.q, .op (.P (.ar .add (.st 0) (.k (.int .u32 1)))) true none),
  (.q, .op (.P (.idxs (.k (.str 200 8369396053099643259884660439900312228746471110943504458504829912206407100469475510520505676855750014530596077689858408204562721349408824591789441711103775826291439126061900675989976254244761425382494394669896706626295868329681710377411642562040512013377776180902291979747008038411282346274188424097310996521951660972735479027990947060043115083917949168200323041593656569302669535377774123378085539195783572932112166539323561441937920580889744256865042652178519653545620815178381625)) (.st 0))) true none),
  (.q, .op (.P (.mv (.sl r8))) true none),
  (.q, .op (.P (.idxs (.k (.str 200 8369396053099643259884660439900312228746471110943504458504829912206407100469475510520505676855750014530596077689858408204562721349408824591789441711103775826291439126061900675989976254244761425382494394669896706626295868329681710377411642562040512013377776180902291979747008038411282346274188424097310996521951660972735479027990947060043115083917949168200323041593656569302669535377774123378085539195783572932112166539323561441937920580889744256865042652178519653545620815178381625)) (.st 0))) true none),
  (.q, .op (.P (.ia 1 (.st 10) (.st 8))) true none),
  (.h [], .op (.W (.st 1 (.st 0) (.st 3))) false none),
  (.q, .op (.P (.ia 1 (.st 8) (.st 6))) true none),
  (.h [], .op (.W (.st 1 (.st 0) (.st 2))) false none)])
 (.seq (.dreg [(.q, .op (.P (.mv (.sl r1))) true none),
  (.q, .op (.P (.mv (.sl r0))) true none),
  (.q, .op (.P (.ar .sub (.st 0) (.k (.int .i64 3)))) true none),
  (.q, .op (.P (.mv (.sl r1))) true none),
  (.q, .op (.P (.mv (.sl r0))) true none),
  (.q, .op (.P (.ar .sub (.st 0) (.k (.int .i64 4)))) true none),
  (.q, .op (.P (.mv (.sl r9))) true none),
  (.q, .op (.P (.ar .add (.st 0) (.k (.int .u32 1)))) true none),
  (.q, .op (.P (.idxs (.k (.str 200 8369396053099643259884660439900312228746471110943504458504829912206407100469475510520505676855750014530596077689858408204562721349408824591789441711103775826291439126061900675989976254244761425382494394669896706626295868329681710377411642562040512013377776180902291979747008038411282346274188424097310996521951660972735479027990947060043115083917949168200323041593656569302669535377774123378085539195783572932112166539323561441937920580889744256865042652178519653545620815178381625)) (.st 0))) true none),
  (.q, .op (.P (.mv (.sl r9))) true none),
  (.q, .op (.P (.idxs (.k (.str 200 8369396053099643259884660439900312228746471110943504458504829912206407100469475510520505676855750014530596077689858408204562721349408824591789441711103775826291439126061900675989976254244761425382494394669896706626295868329681710377411642562040512013377776180902291979747008038411282346274188424097310996521951660972735479027990947060043115083917949168200323041593656569302669535377774123378085539195783572932112166539323561441937920580889744256865042652178519653545620815178381625)) (.st 0))) true none),
  (.q, .op (.P (.ia 1 (.st 10) (.st 8))) true none),
  (.h [], .op (.W (.st 1 (.st 0) (.st 3))) false none),
  (.q, .op (.P (.ia 1 (.st 8) (.st 6))) true none),
  (.h [], .op (.W (.st 1 (.st 0) (.st 2))) false none)])
 (.seq (.dreg [(.q, .op (.P (.mv (.sl r1))) true none),
  (.q, .op (.P (.mv (.sl r0))) true none),
  (.q, .op (.P (.ar .sub (.st 0) (.k (.int .i64 5)))) true none),
  (.q, .op (.P (.mv (.sl r1))) true none),
  (.q, .op (.P (.mv (.sl r0))) true none),
  (.q, .op (.P (.ar .sub (.st 0) (.k (.int .i64 6)))) true none),
  (.q, .op (.P (.mv (.sl r10))) true none),
  (.q, .op (.P (.ar .add (.st 0) (.k (.int .u32 1)))) true none),
  (.q, .op (.P (.idxs (.k (.str 200 8369396053099643259884660439900312228746471110943504458504829912206407100469475510520505676855750014530596077689858408204562721349408824591789441711103775826291439126061900675989976254244761425382494394669896706626295868329681710377411642562040512013377776180902291979747008038411282346274188424097310996521951660972735479027990947060043115083917949168200323041593656569302669535377774123378085539195783572932112166539323561441937920580889744256865042652178519653545620815178381625)) (.st 0))) true none),
  (.q, .op (.P (.mv (.sl r10))) true none),
  (.q, .op (.P (.idxs (.k (.str 200 8369396053099643259884660439900312228746471110943504458504829912206407100469475510520505676855750014530596077689858408204562721349408824591789441711103775826291439126061900675989976254244761425382494394669896706626295868329681710377411642562040512013377776180902291979747008038411282346274188424097310996521951660972735479027990947060043115083917949168200323041593656569302669535377774123378085539195783572932112166539323561441937920580889744256865042652178519653545620815178381625)) (.st 0))) true none),
  (.q, .op (.P (.ia 1 (.st 10) (.st 8))) true none),
  (.h [], .op (.W (.st 1 (.st 0) (.st 3))) false none),
  (.q, .op (.P (.ia 1 (.st 8) (.st 6))) true none),
  (.h [], .op (.W (.st 1 (.st 0) (.st 2))) false none)])
 (.seq (.dreg [(.q, .op (.P (.mv (.sl r1))) true none),
  (.q, .op (.P (.mv (.sl r0))) true none),
  (.q, .op (.P (.ar .sub (.st 0) (.k (.int .i64 7)))) true none),
  (.q, .op (.P (.mv (.sl r1))) true none),
  (.q, .op (.P (.mv (.sl r0))) true none),
  (.q, .op (.P (.ar .sub (.st 0) (.k (.int .i64 8)))) true none),
  (.q, .op (.P (.mv (.sl r11))) true none),
  (.q, .op (.P (.ar .add (.st 0) (.k (.int .u32 1)))) true none),
  (.q, .op (.P (.idxs (.k (.str 200 8369396053099643259884660439900312228746471110943504458504829912206407100469475510520505676855750014530596077689858408204562721349408824591789441711103775826291439126061900675989976254244761425382494394669896706626295868329681710377411642562040512013377776180902291979747008038411282346274188424097310996521951660972735479027990947060043115083917949168200323041593656569302669535377774123378085539195783572932112166539323561441937920580889744256865042652178519653545620815178381625)) (.st 0))) true none),
  (.q, .op (.P (.mv (.sl r11))) true none),
  (.q, .op (.P (.idxs (.k (.str 200 8369396053099643259884660439900312228746471110943504458504829912206407100469475510520505676855750014530596077689858408204562721349408824591789441711103775826291439126061900675989976254244761425382494394669896706626295868329681710377411642562040512013377776180902291979747008038411282346274188424097310996521951660972735479027990947060043115083917949168200323041593656569302669535377774123378085539195783572932112166539323561441937920580889744256865042652178519653545620815178381625)) (.st 0))) true none),
  (.q, .op (.P (.ia 1 (.st 10) (.st 8))) true none),
  (.h [], .op (.W (.st 1 (.st 0) (.st 3))) false none),
  (.q, .op (.P (.ia 1 (.st 8) (.st 6))) true none),
  (.h [], .op (.W (.st 1 (.st 0) (.st 2))) false none)])
 (.reg [.op (.P (.mv (.sl r0))) true none,
  .op (.P (.ar .sub (.st 0) (.k (.int .i64 8)))) true none,
  .op (.P (.mv (.st 0))) false (some r0)]))))))))))))))
 (.seq (.reg [.el,
  .op (.P (.cvi .u32 (.sl r3))) true none,
  .op (.P (.mv (.st 0))) false (some r2)])
 (.seq (.seq (.reg [.el,
  .op (.P (.cmi .geq (.sl r0) (.k (.int .i64 4)))) false (some r12)])
 (.cond (.sl r12) (.seq (.reg [.el,
  .op (.P (.ar .rem (.sl r2) (.k (.int .u32 10000)))) true none,
  .op (.P (.mv (.st 0))) false (some r13)])
 (.seq (.reg [.op (.P (.mv (.sl r2))) true none,
  .op (.P (.ar .quo (.st 0) (.k (.int .u32 10000)))) true none,
  .op (.P (.mv (.st 0))) false (some r2)])
 (.seq (.reg [.el,
  .op (.P (.ar .quo (.sl r13) (.k (.int .u32 100)))) true none,
  .op (.P (.ar .mul (.st 0) (.k (.int .u32 2)))) true none,
  .el,
  .op (.P (.ar .rem (.sl r13) (.k (.int .u32 100)))) true none,
  .op (.P (.ar .mul (.st 0) (.k (.int .u32 2)))) true none,
  .op (.P (.mv (.st 2))) false (some r15),
  .op (.P (.mv (.st 0))) false (some r14)])
 (.seq (.dreg [(.q, .op (.P (.mv (.sl r1))) true none),
  (.q, .op (.P (.mv (.sl r0))) true none),
  (.q, .op (.P (.ar .sub (.st 0) (.k (.int .i64 1)))) true none),
  (.q, .op (.P (.mv (.sl r1))) true none),
  (.q, .op (.P (.mv (.sl r0))) true none),
  (.q, .op (.P (.ar .sub (.st 0) (.k (.int .i64 2)))) true none),
  (.q, .op (.P (.mv (.sl r14))) true none),
  (.q, .op (.P (.ar .add (.st 0) (.k (.int .u32 1)))) true none),
  (.q, .op (.P (.idxs (.k (.str 200 8369396053099643259884660439900312228746471110943504458504829912206407100469475510520505676855750014530596077689858408204562721349408824591789441711103775826291439126061900675989976254244761425382494394669896706626295868329681710377411642562040512013377776180902291979747008038411282346274188424097310996521951660972735479027990947060043115083917949168200323041593656569302669535377774123378085539195783572932112166539323561441937920580889744256865042652178519653545620815178381625)) (.st 0))) true none),
  (.q, .op (.P (.mv (.sl r14))) true none),
  (.q, .op (.P (.idxs (.k (.str 200 8369396053099643259884660439900312228746471110943504458504829912206407100469475510520505676855750014530596077689858408204562721349408824591789441711103775826291439126061900675989976254244761425382494394669896706626295868329681710377411642562040512013377776180902291979747008038411282346274188424097310996521951660972735479027990947060043115083917949168200323041593656569302669535377774123378085539195783572932112166539323561441937920580889744256865042652178519653545620815178381625)) (.st 0))) true none),
  (.q, .op (.P (.ia 1 (.st 10) (.st 8))) true none),
  (.h [], .op (.W (.st 1 (.st 0) (.st 3))) false none),
  (.q, .op (.P (.ia 1 (.st 8) (.st 6))) true none),
  (.h [], .op (.W (.st 1 (.st 0) (.st 2))) false none)])
 (.seq (.dreg [(.q, .op (.P (.mv (.sl r1))) true none),
  (.q, .op (.P (.mv (.sl r0))) true none),
  (.q, .op (.P (.ar .sub (.st 0) (.k (.int .i64 3)))) true none),
  (.q, .op (.P (.mv (.sl r1))) true none),
  (.q, .op (.P (.mv (.sl r0))) true none),
  (.q, .op (.P (.ar .sub (.st 0) (.k (.int .i64 4)))) true none),
  (.q, .op (.P (.mv (.sl r15))) true none),
  (.q, .op (.P (.ar .add (.st 0) (.k (.int .u32 1)))) true none),
  (.q, .op (.P (.idxs (.k (.str 200 8369396053099643259884660439900312228746471110943504458504829912206407100469475510520505676855750014530596077689858408204562721349408824591789441711103775826291439126061900675989976254244761425382494394669896706626295868329681710377411642562040512013377776180902291979747008038411282346274188424097310996521951660972735479027990947060043115083917949168200323041593656569302669535377774123378085539195783572932112166539323561441937920580889744256865042652178519653545620815178381625)) (.st 0))) true none),
  (.q, .op (.P (.mv (.sl r15))) true none),
  (.q, .op (.P (.idxs (.k (.str 200 8369396053099643259884660439900312228746471110943504458504829912206407100469475510520505676855750014530596077689858408204562721349408824591789441711103775826291439126061900675989976254244761425382494394669896706626295868329681710377411642562040512013377776180902291979747008038411282346274188424097310996521951660972735479027990947060043115083917949168200323041593656569302669535377774123378085539195783572932112166539323561441937920580889744256865042652178519653545620815178381625)) (.st 0))) true none),
  (.q, .op (.P (.ia 1 (.st 10) (.st 8))) true none),
  (.h [], .op (.W (.st 1 (.st 0) (.st 3))) false none),
  (.q, .op (.P (.ia 1 (.st 8) (.st 6))) true none),
  (.h [], .op (.W (.st 1 (.st 0) (.st 2))) false none)])
 (.reg [.op (.P (.mv (.sl r0))) true none,
  .op (.P (.ar .sub (.st 0) (.k (.int .i64 4)))) true none,
  .op (.P (.mv (.st 0))) false (some r0)]))))))
 (.skip)))
 (.seq (.seq (.reg [.el,
  .op (.P (.cmi .geq (.sl r0) (.k (.int .i64 2)))) false (some r16)])
 (.cond (.sl r16) (.seq (.reg [.el,
  .op (.P (.ar .rem (.sl r2) (.k (.int .u32 100)))) true none,
  .op (.P (.ar .mul (.st 0) (.k (.int .u32 2)))) true none,
  .op (.P (.mv (.st 0))) false (some r17)])
 (.seq (.reg [.op (.P (.mv (.sl r2))) true none,
  .op (.P (.ar .quo (.st 0) (.k (.int .u32 100)))) true none,
  .op (.P (.mv (.st 0))) false (some r2)])
 (.seq (.dreg [(.q, .op (.P (.mv (.sl r1))) true none),
  (.q, .op (.P (.mv (.sl r0))) true none),
  (.q, .op (.P (.ar .sub (.st 0) (.k (.int .i64 1)))) true none),
  (.q, .op (.P (.mv (.sl r1))) true none),
  (.q, .op (.P (.mv (.sl r0))) true none),
  (.q, .op (.P (.ar .sub (.st 0) (.k (.int .i64 2)))) true none),
  (.q, .op (.P (.mv (.sl r17))) true none),
  (.q, .op (.P (.ar .add (.st 0) (.k (.int .u32 1)))) true none),
  (.q, .op (.P (.idxs (.k (.str 200 8369396053099643259884660439900312228746471110943504458504829912206407100469475510520505676855750014530596077689858408204562721349408824591789441711103775826291439126061900675989976254244761425382494394669896706626295868329681710377411642562040512013377776180902291979747008038411282346274188424097310996521951660972735479027990947060043115083917949168200323041593656569302669535377774123378085539195783572932112166539323561441937920580889744256865042652178519653545620815178381625)) (.st 0))) true none),
  (.q, .op (.P (.mv (.sl r17))) true none),
  (.q, .op (.P (.idxs (.k (.str 200 8369396053099643259884660439900312228746471110943504458504829912206407100469475510520505676855750014530596077689858408204562721349408824591789441711103775826291439126061900675989976254244761425382494394669896706626295868329681710377411642562040512013377776180902291979747008038411282346274188424097310996521951660972735479027990947060043115083917949168200323041593656569302669535377774123378085539195783572932112166539323561441937920580889744256865042652178519653545620815178381625)) (.st 0))) true none),
  (.q, .op (.P (.ia 1 (.st 10) (.st 8))) true none),
  (.h [], .op (.W (.st 1 (.st 0) (.st 3))) false none),
  (.q, .op (.P (.ia 1 (.st 8) (.st 6))) true none),
  (.h [], .op (.W (.st 1 (.st 0) (.st 2))) false none)])
 (.reg [.op (.P (.mv (.sl r0))) true none,
  .op (.P (.ar .sub (.st 0) (.k (.int .i64 2)))) true none,
  .op (.P (.mv (.st 0))) false (some r0)]))))
 (.skip)))
 (.seq (.reg [.el,
  .op (.P (.cmi .gtr (.sl r0) (.k (.int .i64 0)))) false (some r18)])
 (.cond (.sl r18) (.reg [.el,
  .el,
  .op (.P (.ar .add (.k (.int .u32 48)) (.sl r2))) true none,
  .op (.P (.cvi .u8 (.st 0))) true none,
  .op (.P (.ia 1 (.sl r1) (.k (.int .i64 0)))) true none,
  .op (.W (.st 1 (.st 0) (.st 1))) false none])
 (.skip))))))))
  []

def m201 : SlotMap := [(1, r0), (5, r1), (0, r2), (10, r3), (4, r4)]
def c201 : VFn :=
 VFn.mk [some r2, some r0] (.seq (.reg [.op (.P (.mv (.k .nils))) false (some r4)])
 (.seq (.reg [.el,
  .op (.C (.cv (.sl r0) [])) true none,
  .op (.F (.bsl 164 4 1 [(.int .i64 0), (.int .i64 0), (.str 0 0), .nils] [(0, 4, (.st 0))])) true none,
  .op (.P (.mv (.st 0))) false (some r1)])
 (.seq (.block 0 (.loop (.seq (.seq (.reg [.el,
  .op (.C (.cf 89 [(.sl r2), (.k (.str 1 44))])) false (some r3)])
 (.cond (.sl r3) (.skip)
 (.exit 0)))
 (.block 1 (.reg [.op (.P (.mv (.sl r1))) true none,
  .el,
  .op (.C (.cv (.sl r0) [])) true none,
  .op (.F (.bsl 164 4 1 [(.int .i64 0), (.int .i64 0), (.str 0 0), .nils] [(0, 4, (.st 0))])) true none,
  .op (.W (.app 164 4 (.st 2) (.st 0))) true none,
  .op (.P (.mv (.st 0))) false (some r1)])))))
 (.seq (.reg [.el,
  .op (.P (.mv (.sl r1))) false (some r4)])
 (.ret)))))
  [.sl (.sl r4)]

def m202 : SlotMap := [(0, r0), (2, r1)]
def c202 : VFn :=
 VFn.mk [some r0] (.seq (.reg [.op (.P (.mv (.k (.int .i64 0)))) false (some r1)])
 (.seq (.reg [.el,
  .op (.P (.ar .mul (.sl r0) (.k (.int .i64 78913)))) true none,
  .op (.P (.ar .shr (.st 0) (.k (.int .u64 18)))) true none,
  .op (.P (.mv (.st 0))) false (some r1)])
 (.ret)))
  [.sl (.sl r1)]

def m203 : SlotMap := [(0, r0), (2, r1), (4, r2), (8, r3), (14, r4)]
def c203 : VFn :=
 VFn.mk [some r0] (.seq (.reg [.op (.P (.mv (.k (.int .i64 0)))) false (some r1)])
 (.seq (.seq (.reg [.el,
  .op (.P (.cmi .geq (.sl r0) (.k (.int .u64 4294967296)))) false (some r2)])
 (.cond (.sl r2) (.seq (.reg [.op (.P (.mv (.sl r0))) true none,
  .op (.P (.ar .shr (.st 0) (.k (.int .u64 32)))) true none,
  .op (.P (.mv (.st 0))) false (some r0)])
 (.reg [.op (.P (.mv (.k (.int .i64 32)))) false (some r1)]))
 (.skip)))
 (.seq (.seq (.reg [.el,
  .op (.P (.cmi .geq (.sl r0) (.k (.int .u64 65536)))) false (some r3)])
 (.cond (.sl r3) (.seq (.reg [.op (.P (.mv (.sl r0))) true none,
  .op (.P (.ar .shr (.st 0) (.k (.int .u64 16)))) true none,
  .op (.P (.mv (.st 0))) false (some r0)])
 (.reg [.op (.P (.mv (.sl r1))) true none,
  .op (.P (.ar .add (.st 0) (.k (.int .i64 16)))) true none,
  .op (.P (.mv (.st 0))) false (some r1)]))
 (.skip)))
 (.seq (.seq (.reg [.el,
  .op (.P (.cmi .geq (.sl r0) (.k (.int .u64 256)))) false (some r4)])
 (.cond (.sl r4) (.seq (.reg [.op (.P (.mv (.sl r0))) true none,
  .op (.P (.ar .shr (.st 0) (.k (.int .u64 8)))) true none,
  .op (.P (.mv (.st 0))) false (some r0)])
 (.reg [.op (.P (.mv (.sl r1))) true none,
  .op (.P (.ar .add (.st 0) (.k (.int .i64 8)))) true none,
  .op (.P (.mv (.st 0))) false (some r1)]))
 (.skip)))
 (.seq (.reg [.op (.P (.mv (.sl r1))) true none,
  .el,
  .op (.P (.cvi .u8 (.sl r0))) true none,
  .op (.P (.idxs (.k (.str 256 496986003408712215933005303621146343841837811690876167382323004466384420695090407243345123874780946046625255262057845613767806773758184921447759720770971536008171983842311960805720366577116933250839345203839274948261284255908394484732272583221484877694546905335834403051067785895034095251181560891789708940188598129052595634438001880866652824740680664595948164050600812232986714152902334120417949232733424961741260388658846598210939813666227264727603044226856020347194099943897342244906131705541414413428559898943151040826816076322978570758226444464494629814583418847495712557856038296917933182380796641777551368)) (.st 0))) true none,
  .op (.P (.cvi .i64 (.st 0))) true none,
  .op (.P (.ar .add (.st 3) (.st 0))) true none,
  .op (.P (.mv (.st 0))) false (some r1)])
 (.ret))))))
  [.sl (.sl r1)]

def m204 : SlotMap := [(0, r0), (3, r1), (2, r2)]
def c204 : VFn :=
 VFn.mk [some r0] (.seq (.reg [.op (.P (.mv (.k (.int .i64 0)))) false (some r2)])
 (.seq (.seq (.reg [.op (.P (.mv (.sl r0))) false (some r1)])
 (.cond (.sl r1) (.seq (.reg [.op (.P (.mv (.k (.int .i64 1)))) false (some r2)])
 (.ret))
 (.skip)))
 (.seq (.reg [.op (.P (.mv (.k (.int .i64 0)))) false (some r2)])
 (.ret))))
  [.sl (.sl r2)]

def m205 : SlotMap := [(0, r0), (2, r1)]
def c205 : VFn :=
 VFn.mk [some r0] (.seq (.reg [.op (.P (.mv (.k (.bool false)))) false (some r1)])
 (.seq (.reg [.el,
  .el,
  .op (.P (.ar .sub (.sl r0) (.k (.int .i64 1)))) true none,
  .op (.P (.ar .and (.sl r0) (.st 0))) true none,
  .op (.P (.cmi .eql (.st 0) (.k (.int .i64 0)))) true none,
  .op (.P (.mv (.st 0))) false (some r1)])
 (.ret)))
  [.sl (.sl r1)]

def m206 : SlotMap := [(0, r0), (2, r1)]
def c206 : VFn :=
 VFn.mk [some r0] (.seq (.reg [.op (.P (.mv (.k (.int .i64 0)))) false (some r1)])
 (.seq (.cond (.k (.bool false)) (.seq (.reg [.el,
  .op (.P (.cvi .u32 (.sl r0))) true none,
  .op (.C (.cf 207 [(.st 0)])) true none,
  .op (.P (.mv (.st 0))) false (some r1)])
 (.ret))
 (.skip))
 (.seq (.reg [.el,
  .op (.C (.cf 208 [(.sl r0)])) true none,
  .op (.P (.mv (.st 0))) false (some r1)])
 (.ret))))
  [.sl (.sl r1)]

def m207 : SlotMap := [(0, r0), (4, r1), (2, r2)]
def c207 : VFn :=
 VFn.mk [some r0] (.seq (.reg [.op (.P (.mv (.k (.int .i64 0)))) false (some r2)])
 (.seq (.seq (.reg [.el,
  .op (.P (.cmi .eql (.sl r0) (.k (.int .u32 0)))) false (some r1)])
 (.cond (.sl r1) (.seq (.reg [.op (.P (.mv (.k (.int .i64 32)))) false (some r2)])
 (.ret))
 (.skip)))
 (.seq (.reg [.el,
  .el,
  .op (.P (.ng (.sl r0))) true none,
  .op (.P (.ar .and (.sl r0) (.st 0))) true none,
  .op (.P (.ar .mul (.st 0) (.k (.int .u32 125613361)))) true none,
  .op (.P (.ar .shr (.st 0) (.k (.int .u64 27)))) true none,
  .op (.P (.iaa 32 1 (.k (.ptr r6 0)) (.st 0))) true none,
  .op (.R (.ld 1 false (.st 0))) true none,
  .op (.P (.cvi .i64 (.st 0))) true none,
  .op (.P (.mv (.st 0))) false (some r2)])
 (.ret))))
  [.sl (.sl r2)]

def m208 : SlotMap := [(0, r0), (4, r1), (2, r2)]
def c208 : VFn :=
 VFn.mk [some r0] (.seq (.reg [.op (.P (.mv (.k (.int .i64 0)))) false (some r2)])
 (.seq (.seq (.reg [.el,
  .op (.P (.cmi .eql (.sl r0) (.k (.int .u64 0)))) false (some r1)])
 (.cond (.sl r1) (.seq (.reg [.op (.P (.mv (.k (.int .i64 64)))) false (some r2)])
 (.ret))
 (.skip)))
 (.seq (.reg [.el,
  .el,
  .op (.P (.ng (.sl r0))) true none,
  .op (.P (.ar .and (.sl r0) (.st 0))) true none,
  .op (.P (.ar .mul (.st 0) (.k (.int .u64 285870213051353865)))) true none,
  .op (.P (.ar .shr (.st 0) (.k (.int .u64 58)))) true none,
  .op (.P (.iaa 64 1 (.k (.ptr r7 0)) (.st 0))) true none,
  .op (.R (.ld 1 false (.st 0))) true none,
  .op (.P (.cvi .i64 (.st 0))) true none,
  .op (.P (.mv (.st 0))) false (some r2)])
 (.ret))))
  [.sl (.sl r2)]

def m224 : SlotMap := [(0, r0), (3, r1), (19, r2), (2, r3)]
def c224 : VFn :=
 VFn.mk [some r0] (.seq (.reg [.op (.P (.mv (.k (.int .i64 0)))) false (some r3)])
 (.seq (.block 0 (.seq (.dreg [(.q, .op (.P (.mv (.sl r0))) true none),
  (.q, .op (.P (.nn (.st 0))) true none),
  (.q, .op (.P (.fa 4 (.st 0))) true none),
  (.r 0 0, .op (.R (.ld 1 false (.st 0))) true none),
  (.q, .op (.P (.ln 1 (.st 0))) true none),
  (.q, .op (.P (.mv (.sl r0))) true none),
  (.q, .op (.P (.nn (.st 0))) true none),
  (.q, .op (.P (.fa 6 (.st 0))) true none),
  (.r 0 0, .op (.R (.ld 1 false (.st 0))) true none),
  (.q, .op (.P (.cmi .lss (.st 4) (.st 0))) true none),
  (.q, .op (.P (.mv (.st 0))) false (some r1))])
 (.cond (.sl r1) (.seq (.reg [.el,
  .op (.P (.nn (.sl r0))) true none,
  .op (.P (.fa 4 (.st 0))) true none,
  .op (.R (.ld 1 false (.st 0))) true none,
  .op (.P (.ln 1 (.st 0))) true none,
  .op (.P (.mv (.st 0))) false (some r3)])
 (.ret))
 (.seq (.reg [.el,
  .op (.P (.nn (.sl r0))) true none,
  .op (.P (.fa 0 (.st 0))) true none,
  .op (.R (.ld 1 false (.st 0))) true none,
  .op (.P (.cmi .eql (.st 0) (.k (.int .i64 7)))) true none,
  .el,
  .op (.G (.st 0) false (.P (.mv (.sl r0)))) true none,
  .op (.G (.st 1) false (.P (.nn (.st 0)))) true none,
  .op (.G (.st 2) false (.P (.fa 0 (.st 0)))) true none,
  .op (.G (.st 3) false (.R (.ld 1 false (.st 0)))) true none,
  .op (.G (.st 4) false (.P (.cmi .eql (.st 0) (.k (.int .i64 6))))) true none,
  .op (.P (.pick (.st 5) (.k (.bool true)) (.st 0))) true none,
  .el,
  .op (.G (.st 0) false (.P (.mv (.sl r0)))) true none,
  .op (.G (.st 1) false (.C (.cf 252 [(.st 0)]))) true none,
  .op (.P (.pick (.st 2) (.k (.bool true)) (.st 0))) true none,
  .op (.P (.mv (.st 0))) false (some r2)])
 (.cond (.sl r2) (.seq (.reg [.op (.P (.mv (.k (.int .i64 1)))) false (some r3)])
 (.ret))
 (.skip))))))
 (.seq (.reg [.el,
  .op (.P (.nn (.sl r0))) true none,
  .op (.P (.fa 6 (.st 0))) true none,
  .op (.R (.ld 1 false (.st 0))) true none,
  .op (.P (.mv (.st 0))) false (some r3)])
 (.ret))))
  [.sl (.sl r3)]

def m225 : SlotMap := [(0, r0), (1, r1), (10, r2), (3, r3), (5, r4), (21, r5), (4, r6)]
def c225 : VFn :=
 VFn.mk [some r0, some r1] (.seq (.reg [.op (.F (.bx 39 (.sl r1))) false (some r3)])
 (.seq (.seq (.reg [.el,
  .op (.P (.nn (.sl r0))) true none,
  .op (.P (.fa 5 (.st 0))) true none,
  .op (.R (.ld 1 false (.st 0))) true none,
  .op (.P (.cmi .neq (.st 0) (.k (.int .i64 2)))) false (some r2)])
 (.cond (.sl r2) (.ret)
 (.skip)))
 (.seq (.dreg [(.r 0 0, .op (.R (.ld 4 true (.sl r3))) true none),
  (.q, .op (.P (.mv (.sl r0))) true none),
  (.q, .op (.P (.nn (.st 0))) true none),
  (.q, .op (.P (.fa 0 (.st 0))) true none),
  (.r 0 0, .op (.R (.ld 1 false (.st 0))) true none),
  (.q, .op (.P (.mkf 38 [(.st 0)] [])) true none),
  (.h [], .op (.C (.cf 51 [(.st 5), (.st 0)])) true none),
  (.q, .op (.P (.mv (.st 0))) true none),
  (.q, .op (.P (.ext 0 (.st 0))) true none),
  (.q, .op (.P (.ext 1 (.st 1))) true none),
  (.f, .op (.F (.al 139 [(.int .i64 0), (.int .i64 0), (.str 0 0), .nils, .nilp])) false (some r6)),
  (.h [10], .op (.W (.st 5 (.sl r6) (.st 1))) false none),
  (.q, .op (.P (.mv (.st 0))) false (some r4))])
 (.seq (.reg [.op (.P (.mv (.sl r4))) false (some r5)])
 (.cond (.sl r5) (.seq (.reg [.el,
  .op (.P (.nn (.sl r0))) true none,
  .op (.P (.fa 5 (.st 0))) true none,
  .op (.W (.st 1 (.st 0) (.k (.int .i64 0)))) false none])
 (.reg [.el,
  .op (.R (.ld 5 true (.sl r6))) true none,
  .op (.C (.cf 230 [(.sl r0), (.st 0)])) false none]))
 (.skip))))))
  []

def m226 : SlotMap := [(0, r0), (14, r1)]
def c226 : VFn :=
 VFn.mk [some r0] (.seq (.seq (.reg [.el,
  .op (.P (.nn (.sl r0))) true none,
  .op (.P (.fa 5 (.st 0))) true none,
  .op (.R (.ld 1 false (.st 0))) true none,
  .op (.P (.cmi .neq (.st 0) (.k (.int .i64 1)))) true none,
  .el,
  .op (.G (.st 0) false (.P (.mv (.sl r0)))) true none,
  .op (.G (.st 1) false (.P (.nn (.st 0)))) true none,
  .op (.G (.st 2) false (.P (.fa 17 (.st 0)))) true none,
  .op (.G (.st 3) false (.P (.fa 1 (.st 0)))) true none,
  .op (.G (.st 4) false (.R (.ld 1 false (.st 0)))) true none,
  .op (.G (.st 5) false (.P (.cmi .lss (.st 0) (.k (.int .i64 0))))) true none,
  .op (.P (.pick (.st 6) (.k (.bool true)) (.st 0))) false (some r1)])
 (.cond (.sl r1) (.ret)
 (.skip)))
 (.seq (.reg [.el,
  .op (.P (.nn (.sl r0))) true none,
  .op (.P (.fa 5 (.st 0))) true none,
  .op (.W (.st 1 (.st 0) (.k (.int .i64 0)))) false none])
 (.dreg [(.q, .op (.P (.mv (.sl r0))) true none),
  (.q, .op (.P (.mv (.sl r0))) true none),
  (.q, .op (.P (.nn (.st 0))) true none),
  (.q, .op (.P (.fa 25 (.st 0))) true none),
  (.q, .op (.P (.fa 0 (.st 0))) true none),
  (.r 0 0, .op (.R (.ld 1 false (.st 0))) true none),
  (.q, .op (.P (.nn (.st 0))) true none),
  (.q, .op (.P (.fa 4 (.st 0))) true none),
  (.r 0 0, .op (.R (.ld 1 false (.st 0))) true none),
  (.q, .op (.P (.ia 1 (.st 0) (.k (.int .i64 0)))) true none),
  (.r 0 0, .op (.R (.ld 1 false (.st 0))) true none),
  (.q, .op (.P (.mv (.sl r0))) true none),
  (.q, .op (.P (.nn (.st 0))) true none),
  (.q, .op (.P (.fa 25 (.st 0))) true none),
  (.r 0 0, .op (.R (.ld 5 true (.st 0))) true none),
  (.q, .op (.P (.mv (.sl r0))) true none),
  (.q, .op (.P (.nn (.st 0))) true none),
  (.q, .op (.P (.fa 25 (.st 0))) true none),
  (.q, .op (.P (.fa 1 (.st 0))) true none),
  (.r 0 0, .op (.R (.ld 1 false (.st 0))) true none),
  (.h [], .op (.C (.cf 231 [(.st 19), (.st 9), (.st 5), (.st 0)])) false none)])))
  []

def m227 : SlotMap := [(0, r0), (1, r1), (11, r2), (3, r3), (5, r4), (6, r5), (33, r6), (4, r7)]
def c227 : VFn :=
 VFn.mk [some r0, some r1] (.seq (.reg [.op (.F (.bx 39 (.sl r1))) false (some r3),
  .op (.P (.mv (.k (.bool false)))) false (some r7)])
 (.seq (.seq (.reg [.el,
  .op (.P (.nn (.sl r0))) true none,
  .op (.P (.fa 5 (.st 0))) true none,
  .op (.R (.ld 1 false (.st 0))) true none,
  .op (.P (.cmi .neq (.st 0) (.k (.int .i64 1)))) false (some r2)])
 (.cond (.sl r2) (.seq (.reg [.op (.P (.mv (.k (.bool false)))) false (some r7)])
 (.ret))
 (.skip)))
 (.seq (.dreg [(.r 0 0, .op (.R (.ld 4 true (.sl r3))) true none),
  (.q, .op (.P (.mv (.sl r0))) true none),
  (.q, .op (.P (.nn (.st 0))) true none),
  (.q, .op (.P (.fa 0 (.st 0))) true none),
  (.r 0 0, .op (.R (.ld 1 false (.st 0))) true none),
  (.q, .op (.P (.mkf 38 [(.st 0)] [])) true none),
  (.h [], .op (.C (.cf 51 [(.st 5), (.st 0)])) true none),
  (.q, .op (.P (.mv (.st 0))) true none),
  (.q, .op (.P (.ext 0 (.st 0))) true none),
  (.q, .op (.P (.ext 1 (.st 1))) true none),
  (.f, .op (.F (.al 139 [(.int .i64 0), (.int .i64 0), (.str 0 0), .nils, .nilp])) false (some r4)),
  (.h [10], .op (.W (.st 5 (.sl r4) (.st 1))) false none),
  (.q, .op (.P (.mv (.st 0))) false (some r5))])
 (.seq (.seq (.dreg [(.q, .op (.P (.mv (.sl r5))) true none),
  (.q, .op (.P (.no (.st 0))) true none),
  (.q, .op (.P (.mv (.st 0))) true none),
  (.q, .op (.G (.st 0) false (.P (.mv (.sl r0)))) true none),
  (.q, .op (.G (.st 1) false (.P (.mv (.sl r0)))) true none),
  (.q, .op (.G (.st 2) false (.P (.nn (.st 0)))) true none),
  (.q, .op (.G (.st 3) false (.P (.fa 25 (.st 0)))) true none),
  (.r 0 0, .op (.G (.st 4) false (.R (.ld 5 true (.st 0)))) true none),
  (.r 0 0, .op (.G (.st 5) false (.R (.ld 5 true (.sl r4)))) true none),
  (.h [], .op (.G (.st 6) false (.C (.cf 232 [(.st 5), (.st 1), (.st 0)]))) true none),
  (.q, .op (.G (.st 7) false (.P (.no (.st 0)))) true none),
  (.q, .op (.P (.pick (.st 8) (.k (.bool true)) (.st 0))) false (some r6))])
 (.cond (.sl r6) (.seq (.reg [.op (.P (.mv (.k (.bool false)))) false (some r7)])
 (.ret))
 (.skip)))
 (.seq (.reg [.el,
  .op (.P (.nn (.sl r0))) true none,
  .op (.P (.fa 5 (.st 0))) true none,
  .op (.W (.st 1 (.st 0) (.k (.int .i64 0)))) false none])
 (.seq (.reg [.op (.P (.mv (.k (.bool true)))) false (some r7)])
 (.ret)))))))
  [.sl (.sl r7)]

def m228 : SlotMap := [(4, r0), (0, r1), (1, r2), (16, r3), (17, r4), (7, r5), (10, r6), (24, r7), (33, r8), (5, r9)]
def c228 : VFn :=
 VFn.mk [some r1, some r2] (.seq (.reg [.op (.F (.al 41 [(.int .i64 0), (.int .i64 0), (.str 0 0), (.int .i64 0), (.int .i64 0), (.str 0 0), .nils, .nils])) false (some r0)])
 (.seq (.seq (.reg [.el,
  .op (.P (.cmi .lss (.sl r2) (.k (.int .i64 1)))) false (some r5)])
 (.cond (.sl r5) (.seq (.reg [.op (.P (.bld [(.int .i64 0), (.int .i64 0), (.str 0 0), (.int .i64 0), (.int .i64 0), (.str 0 0), .nils, .nils] [(0, 1, (.k (.int .i64 1)))])) true none,
  .op (.W (.st 8 (.sl r0) (.st 0))) false none])
 (.ret))
 (.skip)))
 (.seq (.block 0 (.loop (.seq (.seq (.reg [.el,
  .op (.P (.cmi .gtr (.sl r2) (.k (.int .i64 0)))) false (some r6)])
 (.cond (.sl r6) (.skip)
 (.exit 0)))
 (.seq (.block 1 (.seq (.seq (.reg [.el,
  .op (.P (.nn (.sl r1))) true none,
  .op (.P (.fa 5 (.st 0))) true none,
  .op (.R (.ld 1 false (.st 0))) false (some r3)])
 (.block 2 (.seq (.seq (.reg [.op (.P (.cmi .eql (.sl r3) (.k (.int .i64 1)))) true none,
  .op (.P (.mv (.st 0))) false (some r4)])
 (.cond (.sl r4) (.skip)
 (.reg [.op (.P (.cmi .eql (.sl r3) (.k (.int .i64 3)))) true none,
  .op (.P (.mv (.st 0))) false (some r4)])))
 (.cond (.sl r4) (.seq (.reg [.el,
  .op (.P (.nn (.sl r1))) true none,
  .op (.P (.fa 17 (.st 0))) true none,
  .op (.R (.ld 8 true (.st 0))) true none,
  .op (.W (.st 8 (.sl r0) (.st 0))) false none])
 (.ret))
 (.seq (.reg [.op (.P (.cmi .eql (.sl r3) (.k (.int .i64 2)))) true none,
  .op (.P (.mv (.st 0))) false (some r7)])
 (.cond (.sl r7) (.seq (.reg [.op (.P (.bld [(.int .i64 0), (.int .i64 0), (.str 0 0), (.int .i64 0), (.int .i64 0), (.str 0 0), .nils, .nils] [(0, 1, (.k (.int .i64 1)))])) true none,
  .op (.W (.st 8 (.sl r0) (.st 0))) false none])
 (.ret))
 (.skip)))))))
 (.seq (.reg [.el,
  .op (.C (.cf 233 [(.sl r1)])) false none])
 (.seq (.reg [.el,
  .op (.P (.nn (.sl r1))) true none,
  .op (.P (.fa 30 (.st 0))) true none,
  .op (.R (.ld 1 false (.st 0))) true none,
  .op (.R (.cpq true (.st 0) (.k .nilp))) false (some r8)])
 (.cond (.sl r8) (.seq (.reg [.el,
  .op (.P (.nn (.sl r1))) true none,
  .op (.P (.fa 30 (.st 0))) true none,
  .op (.R (.ld 1 false (.st 0))) true none,
  .op (.P (.nn (.st 0))) true none,
  .op (.R (.ld 8 true (.st 0))) true none,
  .op (.F (.al 41 [(.int .i64 0), (.int .i64 0), (.str 0 0), (.int .i64 0), (.int .i64 0), (.str 0 0), .nils, .nils])) false (some r9),
  .op (.W (.st 8 (.sl r9) (.st 0))) false none])
 (.seq (.reg [.el,
  .op (.P (.nn (.sl r1))) true none,
  .op (.P (.fa 30 (.st 0))) true none,
  .op (.W (.st 1 (.st 0) (.k .nilp))) false none])
 (.seq (.reg [.op (.R (.ld 8 true (.sl r9))) true none,
  .op (.W (.st 8 (.sl r0) (.st 0))) false none])
 (.ret))))
 (.skip))))))
 (.reg [.op (.P (.mv (.sl r2))) true none,
  .op (.P (.ar .sub (.st 0) (.k (.int .i64 1)))) true none,
  .op (.P (.mv (.st 0))) false (some r2)])))))
 (.seq (.reg [.op (.P (.bld [(.int .i64 0), (.int .i64 0), (.str 0 0), (.int .i64 0), (.int .i64 0), (.str 0 0), .nils, .nils] [(0, 1, (.k (.int .i64 1)))])) true none,
  .op (.W (.st 8 (.sl r0) (.st 0))) false none])
 (.ret)))))
  [.cell (.sl r0) 8 true]

def m229 : SlotMap := [(0, r0), (37, r1), (2, r2), (3, r3)]
def c229 : VFn :=
 VFn.mk [some r0] (.seq (.reg [.op (.P (.mv (.k .nils))) false (some r2),
  .op (.P (.mv (.k (.bool false)))) false (some r3)])
 (.seq (.seq (.dreg [(.q, .op (.P (.mv (.sl r0))) true none),
  (.q, .op (.P (.nn (.st 0))) true none),
  (.q, .op (.P (.fa 5 (.st 0))) true none),
  (.r 0 0, .op (.R (.ld 1 false (.st 0))) true none),
  (.q, .op (.P (.cmi .neq (.st 0) (.k (.int .i64 1)))) true none),
  (.q, .op (.P (.mv (.st 0))) true none),
  (.q, .op (.G (.st 0) false (.P (.mv (.sl r0)))) true none),
  (.q, .op (.G (.st 1) false (.P (.nn (.st 0)))) true none),
  (.q, .op (.G (.st 2) false (.P (.fa 25 (.st 0)))) true none),
  (.q, .op (.G (.st 3) false (.P (.fa 0 (.st 0)))) true none),
  (.r 0 0, .op (.G (.st 4) false (.R (.ld 1 false (.st 0)))) true none),
  (.q, .op (.G (.st 5) false (.P (.mv (.sl r0)))) true none),
  (.q, .op (.G (.st 6) false (.P (.nn (.st 0)))) true none),
  (.q, .op (.G (.st 7) false (.P (.fa 1 (.st 0)))) true none),
  (.q, .op (.G (.st 8) false (.P (.fa 1 (.st 0)))) true none),
  (.r 0 0, .op (.G (.st 9) false (.R (.ld 1 false (.st 0)))) true none),
  (.r 0 0, .op (.G (.st 10) false (.R (.cpq true (.st 5) (.st 0)))) true none),
  (.q, .op (.P (.pick (.st 11) (.k (.bool true)) (.st 0))) true none),
  (.q, .op (.P (.mv (.st 0))) true none),
  (.q, .op (.G (.st 0) false (.P (.mv (.sl r0)))) true none),
  (.q, .op (.G (.st 1) false (.P (.nn (.st 0)))) true none),
  (.q, .op (.G (.st 2) false (.P (.fa 6 (.st 0)))) true none),
  (.r 0 0, .op (.G (.st 3) false (.R (.ld 1 false (.st 0)))) true none),
  (.q, .op (.G (.st 4) false (.P (.ln 1 (.st 0)))) true none),
  (.q, .op (.G (.st 5) false (.P (.cmi .gtr (.st 0) (.k (.int .i64 0))))) true none),
  (.q, .op (.P (.pick (.st 6) (.k (.bool true)) (.st 0))) true none),
  (.q, .op (.P (.mv (.st 0))) true none),
  (.q, .op (.G (.st 0) false (.P (.mv (.sl r0)))) true none),
  (.q, .op (.G (.st 1) false (.P (.nn (.st 0)))) true none),
  (.q, .op (.G (.st 2) false (.P (.fa 4 (.st 0)))) true none),
  (.r 0 0, .op (.G (.st 3) false (.R (.ld 1 false (.st 0)))) true none),
  (.h [], .op (.G (.st 4) false (.C (.cf 234 [(.st 0)]))) true none),
  (.q, .op (.G (.st 5) false (.P (.no (.st 0)))) true none),
  (.q, .op (.P (.pick (.st 6) (.k (.bool true)) (.st 0))) false (some r1))])
 (.cond (.sl r1) (.seq (.reg [.op (.P (.mv (.k .nils))) false (some r2),
  .op (.P (.mv (.k (.bool false)))) false (some r3)])
 (.ret))
 (.skip)))
 (.seq (.reg [.el,
  .op (.P (.nn (.sl r0))) true none,
  .op (.P (.fa 4 (.st 0))) true none,
  .op (.R (.ld 1 false (.st 0))) true none,
  .op (.C (.cf 235 [(.st 0)])) true none,
  .op (.P (.mv (.st 0))) false (some r2),
  .op (.P (.mv (.k (.bool true)))) false (some r3)])
 (.ret))))
  [.sl (.sl r2), .sl (.sl r3)]

def m230 : SlotMap := [(1, r0), (3, r1), (0, r2)]
def c230 : VFn :=
 VFn.mk [some r2, some r0] (.seq (.reg [.op (.F (.bx 139 (.sl r0))) false (some r1)])
 (.dreg [(.q, .op (.P (.mv (.sl r2))) true none),
  (.q, .op (.P (.mv (.sl r2))) true none),
  (.r 0 1, .op (.R (.ld 5 true (.sl r1))) true none),
  (.q, .op (.P (.nn (.st 2))) true none),
  (.q, .op (.P (.fa 7 (.st 0))) true none),
  (.q, .op (.P (.fa 0 (.st 0))) true none),
  (.h [], .op (.W (.st 1 (.st 0) (.k .nilp))) false none),
  (.q, .op (.P (.nn (.st 4))) true none),
  (.q, .op (.P (.fa 12 (.st 0))) true none),
  (.h [], .op (.W (.st 5 (.st 0) (.st 5))) false none)]))
  []

def m231 : SlotMap := [(2, r0), (6, r1), (3, r2), (1, r3), (0, r4)]
def c231 : VFn :=
 VFn.mk [some r4, some r3, some r0, some r2] (.seq (.reg [.op (.F (.bx 136 (.sl r0))) false (some r1)])
 (.reg [.el,
  .el,
  .el,
  .op (.P (.fa 3 (.sl r1))) true none,
  .op (.R (.ld 1 false (.st 0))) true none,
  .op (.P (.fa 4 (.sl r1))) true none,
  .op (.R (.ld 1 false (.st 0))) true none,
  .op (.P (.bld [.nilp, .nilp, .nils, (.int .i64 0), (.bool false)] [(0, 1, (.sl r3)), (1, 1, (.sl r2)), (3, 1, (.st 2)), (4, 1, (.st 0))])) true none,
  .op (.P (.nn (.sl r4))) true none,
  .op (.P (.fa 7 (.st 0))) true none,
  .op (.W (.st 5 (.st 0) (.st 2))) false none]))
  []

def m232 : SlotMap := [(4, r0), (17, r1), (8, r2), (2, r3), (1, r4), (16, r5), (18, r6), (15, r7), (5, r8), (10, r9), (30, r10), (9, r11), (0, r12), (6, r13)]
def c232 : VFn :=
 VFn.mk [some r12, some r4, some r3] (.seq (.reg [.op (.F (.bx 136 (.sl r4))) false (some r0),
  .op (.F (.bx 139 (.sl r3))) false (some r8),
  .op (.P (.mv (.k (.bool false)))) false (some r13)])
 (.seq (.seq (.reg [.op (.P (.fa 0 (.sl r0))) true none,
  .op (.R (.ld 1 false (.st 0))) true none,
  .op (.P (.nn (.st 0))) true none,
  .op (.P (.fa 5 (.st 0))) true none,
  .op (.R (.ld 1 false (.st 0))) false (some r7),
  .op (.P (.ln 1 (.sl r7))) false (some r5),
  .op (.P (.mv (.k (.int .i64 0)))) false (some r1)])
 (.block 0 (.loop (.seq (.reg [.op (.P (.cmi .lss (.sl r1) (.sl r5))) false (some r6)])
 (.seq (.cond (.sl r6) (.skip)
 (.exit 0))
 (.seq (.block 1 (.seq (.reg [.op (.P (.ia 5 (.sl r7) (.sl r1))) true none,
  .op (.R (.ld 5 true (.st 0))) true none,
  .op (.F (.al 169 [(.int .i64 0), (.int .i64 0), (.str 0 0), .nils, .nilp])) false (some r2),
  .op (.W (.st 5 (.sl r2) (.st 0))) false none])
 (.seq (.reg [.op (.P (.fa 0 (.sl r2))) true none,
  .op (.R (.ld 4 true (.st 0))) true none,
  .op (.R (.ld 5 true (.sl r8))) true none,
  .op (.P (.fa 1 (.sl r0))) true none,
  .op (.R (.ld 1 false (.st 0))) true none,
  .op (.C (.cf 236 [(.st 3), (.st 2), (.st 0)])) true none,
  .el,
  .op (.P (.ext 0 (.st 0))) true none,
  .op (.P (.ext 1 (.st 1))) true none,
  .op (.P (.mv (.st 1))) false (some r11),
  .op (.P (.mv (.st 0))) false (some r9)])
 (.seq (.reg [.op (.P (.mv (.sl r9))) false (some r10)])
 (.cond (.sl r10) (.seq (.reg [.el,
  .op (.P (.fa 4 (.sl r2))) true none,
  .op (.R (.ld 1 false (.st 0))) true none,
  .op (.R (.ld 5 true (.sl r0))) true none,
  .el,
  .op (.C (.cf 231 [(.sl r12), (.st 1), (.st 0), (.sl r11)])) false none])
 (.seq (.reg [.op (.P (.mv (.k (.bool true)))) false (some r13)])
 (.ret)))
 (.skip))))))
 (.reg [.op (.P (.ar .add (.sl r1) (.k (.int .i64 1)))) true none,
  .op (.P (.mv (.st 0))) false (some r1)])))))))
 (.seq (.reg [.op (.P (.mv (.k (.bool false)))) false (some r13)])
 (.ret))))
  [.sl (.sl r13)]

def m233 : SlotMap := [(0, r0), (2, r1), (3, r2), (9, r3), (23, r4)]
def c233 : VFn :=
 VFn.mk [some r0] (.seq (.seq (.reg [.el,
  .op (.P (.nn (.sl r0))) true none,
  .op (.P (.fa 7 (.st 0))) true none,
  .op (.P (.fa 0 (.st 0))) true none,
  .op (.R (.ld 1 false (.st 0))) true none,
  .op (.R (.cpq true (.st 0) (.k .nilp))) false (some r3)])
 (.cond (.sl r3) (.seq (.reg [.el,
  .el,
  .op (.P (.nn (.sl r0))) true none,
  .op (.P (.fa 7 (.st 0))) true none,
  .op (.R (.ld 5 true (.st 0))) true none,
  .op (.C (.cf 237 [(.sl r0), (.st 0)])) false none])
 (.ret))
 (.skip)))
 (.seq (.reg [.el,
  .op (.P (.nn (.sl r0))) true none,
  .op (.P (.fa 6 (.st 0))) true none,
  .op (.R (.ld 1 false (.st 0))) true none,
  .op (.P (.ln 1 (.st 0))) true none,
  .op (.P (.ar .sub (.st 0) (.k (.int .i64 1)))) true none,
  .op (.P (.mv (.st 0))) false (some r1)])
 (.seq (.seq (.reg [.el,
  .op (.P (.cmi .lss (.sl r1) (.k (.int .i64 0)))) false (some r4)])
 (.cond (.sl r4) (.seq (.reg [.el,
  .op (.P (.bld [(.int .i64 0), (.int .i64 0), (.str 0 0), (.int .i64 0), (.int .i64 0), (.str 0 0), .nils, .nils] [(0, 1, (.k (.int .i64 8)))])) true none,
  .op (.C (.cf 238 [(.sl r0), (.st 0)])) false none])
 (.ret))
 (.skip)))
 (.seq (.reg [.el,
  .op (.P (.nn (.sl r0))) true none,
  .op (.P (.fa 6 (.st 0))) true none,
  .op (.R (.ld 1 false (.st 0))) true none,
  .el,
  .op (.P (.ia 5 (.st 0) (.sl r1))) true none,
  .op (.R (.ld 5 true (.st 0))) true none,
  .op (.F (.al 136 [.nilp, .nilp, .nils, (.int .i64 0), (.bool false)])) false (some r2),
  .op (.W (.st 5 (.sl r2) (.st 0))) false none])
 (.seq (.reg [.el,
  .el,
  .op (.P (.nn (.sl r0))) true none,
  .op (.P (.fa 6 (.st 0))) true none,
  .op (.R (.ld 1 false (.st 0))) true none,
  .el,
  .op (.R (.sll 136 5 (.st 0) none (some (.sl r1)))) true none,
  .op (.P (.nn (.sl r0))) true none,
  .op (.P (.fa 6 (.st 0))) true none,
  .op (.W (.st 1 (.st 0) (.st 2))) false none])
 (.seq (.dreg [(.q, .op (.P (.fa 2 (.sl r2))) true none),
  (.r 0 0, .op (.R (.ld 1 false (.st 0))) true none),
  (.q, .op (.P (.mv (.sl r0))) true none),
  (.q, .op (.P (.nn (.st 0))) true none),
  (.q, .op (.P (.fa 12 (.st 0))) true none),
  (.r 0 0, .op (.R (.ld 5 true (.st 0))) true none),
  (.f, .op (.F (.bsl 139 5 1 [(.int .i64 0), (.int .i64 0), (.str 0 0), .nils, .nilp] [(0, 5, (.st 0))])) true none),
  (.h [6], .op (.W (.app 139 5 (.st 5) (.st 0))) true none),
  (.q, .op (.P (.fa 2 (.sl r2))) true none),
  (.h [6], .op (.W (.st 1 (.st 0) (.st 1))) false none)])
 (.reg [.el,
  .op (.R (.ld 5 true (.sl r2))) true none,
  .op (.C (.cf 239 [(.sl r0), (.st 0)])) false none])))))))
  []

def m234 : SlotMap := [(0, r0), (4, r1), (2, r2)]
def c234 : VFn :=
 VFn.mk [some r0] (.seq (.reg [.op (.P (.mv (.k (.bool false)))) false (some r2)])
 (.seq (.reg [.el,
  .op (.C (.cf 240 [(.sl r0)])) true none,
  .el,
  .op (.P (.ext 0 (.st 0))) true none,
  .op (.P (.ext 1 (.st 1))) true none,
  .op (.P (.mv (.st 1))) false none,
  .op (.P (.mv (.st 0))) false (some r1)])
 (.seq (.reg [.el,
  .op (.P (.mv (.sl r1))) false (some r2)])
 (.ret))))
  [.sl (.sl r2)]

def m235 : SlotMap := [(8, r0), (3, r1), (0, r2), (7, r3), (9, r4), (6, r5), (5, r6), (2, r7)]
def c235 : VFn :=
 VFn.mk [some r2] (.seq (.reg [.op (.P (.mv (.k .nils))) false (some r7)])
 (.seq (.reg [.op (.P (.mv (.k .nils))) false (some r1)])
 (.seq (.seq (.reg [.op (.P (.mv (.sl r2))) false (some r5),
  .op (.P (.ln 1 (.sl r5))) false (some r3),
  .op (.P (.mv (.k (.int .i64 0)))) false (some r0)])
 (.block 0 (.loop (.seq (.reg [.op (.P (.cmi .lss (.sl r0) (.sl r3))) false (some r4)])
 (.seq (.cond (.sl r4) (.skip)
 (.exit 0))
 (.seq (.block 1 (.seq (.reg [.op (.P (.ia 5 (.sl r5) (.sl r0))) true none,
  .op (.R (.ld 5 true (.st 0))) true none,
  .op (.F (.al 139 [(.int .i64 0), (.int .i64 0), (.str 0 0), .nils, .nilp])) false (some r6),
  .op (.W (.st 5 (.sl r6) (.st 0))) false none])
 (.reg [.op (.P (.mv (.sl r1))) true none,
  .op (.R (.ld 5 true (.sl r6))) true none,
  .op (.C (.cf 241 [(.st 0)])) true none,
  .op (.F (.bsl 39 4 1 [(.int .i64 0), (.int .i64 0), (.str 0 0), .nils] [(0, 4, (.st 0))])) true none,
  .op (.W (.app 39 4 (.st 3) (.st 0))) true none,
  .op (.P (.mv (.st 0))) false (some r1)])))
 (.reg [.op (.P (.ar .add (.sl r0) (.k (.int .i64 1)))) true none,
  .op (.P (.mv (.st 0))) false (some r0)])))))))
 (.seq (.reg [.el,
  .op (.P (.mv (.sl r1))) false (some r7)])
 (.ret)))))
  [.sl (.sl r7)]

def m236 : SlotMap := [(2, r0), (3, r1), (12, r2), (4, r3), (88, r4), (1, r5), (0, r6), (13, r7), (16, r8), (24, r9), (37, r10), (50, r11), (63, r12), (83, r13), (87, r14), (89, r15), (86, r16), (8, r17), (9, r18), (10, r19), (105, r20), (6, r21), (7, r22)]
def c236 : VFn :=
 VFn.mk [some r6, some r5, some r0] (.seq (.reg [.op (.F (.bx 164 (.sl r6))) false (some r1),
  .op (.F (.bx 139 (.sl r5))) false (some r3),
  .op (.P (.mv (.k .nilp))) false (some r21),
  .op (.P (.mv (.k (.bool false)))) false (some r22)])
 (.seq (.seq (.reg [.op (.P (.fa 0 (.sl r1))) true none,
  .op (.R (.ld 1 false (.st 0))) false (some r2)])
 (.block 0 (.seq (.reg [.op (.P (.cmi .eql (.sl r2) (.k (.int .i64 1)))) true none,
  .op (.P (.mv (.st 0))) false (some r7)])
 (.cond (.sl r7) (.seq (.reg [.el,
  .op (.P (.mv (.sl r0))) false (some r21),
  .op (.P (.mv (.k (.bool true)))) false (some r22)])
 (.ret))
 (.seq (.reg [.op (.P (.cmi .eql (.sl r2) (.k (.int .i64 2)))) true none,
  .op (.P (.mv (.st 0))) false (some r8)])
 (.cond (.sl r8) (.seq (.reg [.op (.P (.fa 2 (.sl r1))) true none,
  .op (.R (.ld 1 false (.st 0))) true none,
  .op (.R (.ld 5 true (.sl r3))) true none,
  .el,
  .op (.P (.bld [(.str 0 0), (.int .i64 0), (.int .i64 0), (.str 0 0), .nils, .nilp, .nilp] [(0, 1, (.st 1)), (1, 5, (.st 0)), (6, 1, (.sl r0))])) true none,
  .op (.F (.bx 218 (.st 0))) true none,
  .op (.P (.mv (.st 0))) false (some r21),
  .op (.P (.mv (.k (.bool true)))) false (some r22)])
 (.ret))
 (.seq (.reg [.op (.P (.cmi .eql (.sl r2) (.k (.int .i64 3)))) true none,
  .op (.P (.mv (.st 0))) false (some r9)])
 (.cond (.sl r9) (.seq (.dreg [(.q, .op (.P (.mv (.sl r0))) true none),
  (.q, .op (.P (.fa 0 (.sl r3))) true none),
  (.r 0 0, .op (.R (.ld 1 false (.st 0))) true none),
  (.q, .op (.P (.cmi .eql (.st 0) (.k (.int .i64 2)))) true none),
  (.q, .op (.P (.mv (.st 0))) true none),
  (.q, .op (.G (.st 0) true (.P (.fa 1 (.sl r3)))) true none),
  (.r 0 0, .op (.G (.st 1) true (.R (.ld 1 false (.st 0)))) true none),
  (.q, .op (.G (.st 2) true (.P (.fa 1 (.sl r1)))) true none),
  (.r 0 0, .op (.G (.st 3) true (.R (.ld 1 false (.st 0)))) true none),
  (.q, .op (.G (.st 4) true (.P (.cmi .eql (.st 2) (.st 0)))) true none),
  (.q, .op (.P (.pick (.st 5) (.st 0) (.k (.bool false)))) true none),
  (.q, .op (.P (.mv (.st 10))) false (some r21)),
  (.q, .op (.P (.mv (.st 0))) false (some r22))])
 (.ret))
 (.seq (.reg [.op (.P (.cmi .eql (.sl r2) (.k (.int .i64 4)))) true none,
  .op (.P (.mv (.st 0))) false (some r10)])
 (.cond (.sl r10) (.seq (.dreg [(.q, .op (.P (.mv (.sl r0))) true none),
  (.q, .op (.P (.fa 0 (.sl r3))) true none),
  (.r 0 0, .op (.R (.ld 1 false (.st 0))) true none),
  (.q, .op (.P (.cmi .eql (.st 0) (.k (.int .i64 3)))) true none),
  (.q, .op (.P (.mv (.st 0))) true none),
  (.q, .op (.G (.st 0) true (.P (.fa 1 (.sl r3)))) true none),
  (.r 0 0, .op (.G (.st 1) true (.R (.ld 1 false (.st 0)))) true none),
  (.q, .op (.G (.st 2) true (.P (.fa 1 (.sl r1)))) true none),
  (.r 0 0, .op (.G (.st 3) true (.R (.ld 1 false (.st 0)))) true none),
  (.q, .op (.G (.st 4) true (.P (.cmi .eql (.st 2) (.st 0)))) true none),
  (.q, .op (.P (.pick (.st 5) (.st 0) (.k (.bool false)))) true none),
  (.q, .op (.P (.mv (.st 10))) false (some r21)),
  (.q, .op (.P (.mv (.st 0))) false (some r22))])
 (.ret))
 (.seq (.reg [.op (.P (.cmi .eql (.sl r2) (.k (.int .i64 5)))) true none,
  .op (.P (.mv (.st 0))) false (some r11)])
 (.cond (.sl r11) (.seq (.dreg [(.q, .op (.P (.mv (.sl r0))) true none),
  (.q, .op (.P (.fa 0 (.sl r3))) true none),
  (.r 0 0, .op (.R (.ld 1 false (.st 0))) true none),
  (.q, .op (.P (.cmi .eql (.st 0) (.k (.int .i64 4)))) true none),
  (.q, .op (.P (.mv (.st 0))) true none),
  (.q, .op (.G (.st 0) true (.P (.fa 2 (.sl r3)))) true none),
  (.r 0 0, .op (.G (.st 1) true (.R (.ld 1 false (.st 0)))) true none),
  (.q, .op (.G (.st 2) true (.P (.fa 2 (.sl r1)))) true none),
  (.r 0 0, .op (.G (.st 3) true (.R (.ld 1 false (.st 0)))) true none),
  (.q, .op (.G (.st 4) true (.P (.cms .eql (.st 2) (.st 0)))) true none),
  (.q, .op (.P (.pick (.st 5) (.st 0) (.k (.bool false)))) true none),
  (.q, .op (.P (.mv (.st 10))) false (some r21)),
  (.q, .op (.P (.mv (.st 0))) false (some r22))])
 (.ret))
 (.seq (.reg [.op (.P (.cmi .eql (.sl r2) (.k (.int .i64 6)))) true none,
  .op (.P (.mv (.st 0))) false (some r12)])
 (.cond (.sl r12) (.seq (.seq (.reg [.op (.P (.fa 0 (.sl r3))) true none,
  .op (.R (.ld 1 false (.st 0))) true none,
  .op (.P (.cmi .neq (.st 0) (.k (.int .i64 5)))) true none,
  .el,
  .op (.G (.st 0) false (.P (.fa 2 (.sl r3)))) true none,
  .op (.G (.st 1) false (.R (.ld 1 false (.st 0)))) true none,
  .op (.G (.st 2) false (.P (.fa 2 (.sl r1)))) true none,
  .op (.G (.st 3) false (.R (.ld 1 false (.st 0)))) true none,
  .op (.G (.st 4) false (.P (.cms .neq (.st 2) (.st 0)))) true none,
  .op (.P (.pick (.st 5) (.k (.bool true)) (.st 0))) true none,
  .el,
  .op (.G (.st 0) false (.P (.fa 3 (.sl r3)))) true none,
  .op (.G (.st 1) false (.R (.ld 1 false (.st 0)))) true none,
  .op (.G (.st 2) false (.P (.ln 1 (.st 0)))) true none,
  .op (.G (.st 3) false (.P (.fa 3 (.sl r1)))) true none,
  .op (.G (.st 4) false (.R (.ld 1 false (.st 0)))) true none,
  .op (.G (.st 5) false (.P (.ln 1 (.st 0)))) true none,
  .op (.G (.st 6) false (.P (.cmi .neq (.st 3) (.st 0)))) true none,
  .op (.P (.pick (.st 7) (.k (.bool true)) (.st 0))) false (some r13)])
 (.cond (.sl r13) (.seq (.reg [.el,
  .op (.P (.mv (.sl r0))) false (some r21),
  .op (.P (.mv (.k (.bool false)))) false (some r22)])
 (.ret))
 (.skip)))
 (.seq (.seq (.reg [.op (.P (.fa 3 (.sl r1))) true none,
  .op (.R (.ld 1 false (.st 0))) false (some r16),
  .op (.P (.ln 1 (.sl r16))) false (some r14),
  .op (.P (.mv (.k (.int .i64 0)))) false (some r4)])
 (.block 1 (.loop (.seq (.reg [.op (.P (.cmi .lss (.sl r4) (.sl r14))) false (some r15)])
 (.seq (.cond (.sl r15) (.skip)
 (.exit 1))
 (.seq (.block 2 (.seq (.reg [.el,
  .op (.P (.ia 4 (.sl r16) (.sl r4))) true none,
  .op (.R (.ld 4 true (.st 0))) true none,
  .op (.F (.al 164 [(.int .i64 0), (.int .i64 0), (.str 0 0), .nils])) false (some r18),
  .op (.P (.mv (.sl r4))) false (some r17),
  .op (.W (.st 4 (.sl r18) (.st 0))) false none])
 (.seq (.reg [.op (.P (.mv (.k (.bool false)))) false (some r19)])
 (.seq (.dreg [(.r 0 0, .op (.R (.ld 4 true (.sl r18))) true none),
  (.q, .op (.P (.fa 3 (.sl r3))) true none),
  (.r 0 0, .op (.R (.ld 1 false (.st 0))) true none),
  (.q, .op (.P (.mv (.sl r17))) true none),
  (.q, .op (.P (.ia 5 (.st 1) (.st 0))) true none),
  (.r 0 0, .op (.R (.ld 5 true (.st 0))) true none),
  (.q, .op (.P (.mv (.sl r0))) true none),
  (.h [], .op (.C (.cf 236 [(.st 6), (.st 1), (.st 0)])) true none),
  (.q, .op (.P (.mv (.st 0))) true none),
  (.q, .op (.P (.ext 0 (.st 0))) true none),
  (.q, .op (.P (.ext 1 (.st 1))) true none),
  (.q, .op (.P (.mv (.st 1))) false (some r0)),
  (.q, .op (.P (.mv (.st 0))) false (some r19))])
 (.seq (.reg [.el,
  .op (.P (.no (.sl r19))) false (some r20)])
 (.cond (.sl r20) (.seq (.reg [.el,
  .op (.P (.mv (.sl r0))) false (some r21),
  .op (.P (.mv (.k (.bool false)))) false (some r22)])
 (.ret))
 (.skip)))))))
 (.reg [.op (.P (.ar .add (.sl r4) (.k (.int .i64 1)))) true none,
  .op (.P (.mv (.st 0))) false (some r4)])))))))
 (.seq (.reg [.el,
  .op (.P (.mv (.sl r0))) false (some r21),
  .op (.P (.mv (.k (.bool true)))) false (some r22)])
 (.ret))))
 (.skip)))))))))))))))
 (.seq (.reg [.el,
  .op (.P (.mv (.sl r0))) false (some r21),
  .op (.P (.mv (.k (.bool false)))) false (some r22)])
 (.ret))))
  [.sl (.sl r21), .sl (.sl r22)]

def m237 : SlotMap := [(3, r0), (0, r1), (4, r2), (32, r3), (1, r4), (7, r5), (15, r6), (36, r7), (41, r8)]
def c237 : VFn :=
 VFn.mk [some r1, some r4] (.seq (.reg [.op (.F (.bx 136 (.sl r4))) false (some r0)])
 (.seq (.reg [.op (.P (.fa 0 (.sl r0))) true none,
  .op (.R (.ld 1 false (.st 0))) true none,
  .op (.P (.mv (.st 0))) false (some r2)])
 (.seq (.block 0 (.seq (.reg [.el,
  .op (.P (.nn (.sl r2))) true none,
  .op (.P (.fa 6 (.st 0))) true none,
  .op (.R (.ld 1 false (.st 0))) true none,
  .op (.P (.cmi .lss (.st 0) (.k (.int .i64 0)))) true none,
  .op (.P (.mv (.st 0))) false (some r5)])
 (.cond (.sl r5) (.seq (.reg [.el,
  .op (.C (.cf 242 [(.sl r1), (.k (.str 4 1954115685))])) false none])
 (.ret))
 (.seq (.dreg [(.q, .op (.P (.mv (.sl r2))) true none),
  (.q, .op (.P (.nn (.st 0))) true none),
  (.q, .op (.P (.fa 4 (.st 0))) true none),
  (.r 0 0, .op (.R (.ld 1 false (.st 0))) true none),
  (.q, .op (.P (.ln 1 (.st 0))) true none),
  (.q, .op (.P (.mv (.sl r2))) true none),
  (.q, .op (.P (.nn (.st 0))) true none),
  (.q, .op (.P (.fa 6 (.st 0))) true none),
  (.r 0 0, .op (.R (.ld 1 false (.st 0))) true none),
  (.q, .op (.P (.cmi .lss (.st 4) (.st 0))) true none),
  (.q, .op (.P (.mv (.st 0))) false (some r6))])
 (.cond (.sl r6) (.seq (.reg [.el,
  .op (.R (.ld 5 true (.sl r0))) true none,
  .op (.C (.cf 239 [(.sl r1), (.st 0)])) false none])
 (.ret))
 (.skip))))))
 (.seq (.reg [.el,
  .op (.P (.nn (.sl r2))) true none,
  .op (.P (.fa 0 (.st 0))) true none,
  .op (.R (.ld 1 false (.st 0))) false (some r3)])
 (.block 1 (.seq (.reg [.op (.P (.cmi .eql (.sl r3) (.k (.int .i64 10)))) true none,
  .op (.P (.mv (.st 0))) false (some r7)])
 (.cond (.sl r7) (.reg [.el,
  .op (.R (.ld 5 true (.sl r0))) true none,
  .op (.C (.cf 243 [(.sl r1), (.st 0)])) false none])
 (.seq (.reg [.op (.P (.cmi .eql (.sl r3) (.k (.int .i64 18)))) true none,
  .op (.P (.mv (.st 0))) false (some r8)])
 (.cond (.sl r8) (.reg [.el,
  .op (.R (.ld 5 true (.sl r0))) true none,
  .op (.C (.cf 244 [(.sl r1), (.st 0)])) false none])
 (.reg [.el,
  .op (.R (.ld 5 true (.sl r0))) true none,
  .op (.C (.cf 239 [(.sl r1), (.st 0)])) false none]))))))))))
  []

def m238 : SlotMap := [(0, r0), (1, r1), (3, r2)]
def c238 : VFn :=
 VFn.mk [some r0, some r1] (.seq (.reg [.op (.F (.bx 41 (.sl r1))) false (some r2)])
 (.seq (.reg [.el,
  .el,
  .el,
  .op (.R (.ld 8 true (.sl r2))) true none,
  .op (.P (.nn (.sl r0))) true none,
  .op (.P (.fa 5 (.st 0))) true none,
  .op (.W (.st 1 (.st 0) (.k (.int .i64 3)))) false none,
  .op (.P (.nn (.sl r0))) true none,
  .op (.P (.fa 17 (.st 0))) true none,
  .op (.W (.st 8 (.st 0) (.st 4))) false none,
  .op (.P (.nn (.sl r0))) true none,
  .op (.P (.fa 30 (.st 0))) true none,
  .op (.W (.st 1 (.st 0) (.sl r2))) false none])
 (.reg [.el,
  .op (.P (.nn (.sl r0))) true none,
  .op (.P (.fa 6 (.st 0))) true none,
  .op (.W (.st 1 (.st 0) (.k .nils))) false none])))
  []

def m239 : SlotMap := [(3, r0), (0, r1), (56, r2), (122, r3), (4, r4), (111, r5), (6, r6), (1, r7), (14, r8), (49, r9), (71, r10), (96, r11), (101, r12), (106, r13), (117, r14), (64, r15), (5, r16)]
def c239 : VFn :=
 VFn.mk [some r1, some r7] (.seq (.reg [.op (.F (.bx 136 (.sl r7))) false (some r0)])
 (.seq (.reg [.op (.P (.fa 2 (.sl r0))) true none,
  .op (.R (.ld 1 false (.st 0))) true none,
  .op (.P (.ln 1 (.st 0))) true none,
  .op (.P (.mv (.st 0))) false (some r4)])
 (.seq (.seq (.reg [.el,
  .op (.P (.fa 0 (.sl r0))) true none,
  .op (.R (.ld 1 false (.st 0))) true none,
  .op (.C (.cf 224 [(.st 0)])) true none,
  .op (.P (.cmi .lss (.sl r4) (.st 0))) false (some r8)])
 (.cond (.sl r8) (.seq (.dreg [(.q, .op (.P (.mv (.sl r1))) true none),
  (.q, .op (.P (.mv (.sl r1))) true none),
  (.q, .op (.P (.nn (.st 0))) true none),
  (.q, .op (.P (.fa 6 (.st 0))) true none),
  (.r 0 0, .op (.R (.ld 1 false (.st 0))) true none),
  (.r 0 0, .op (.R (.ld 5 true (.sl r0))) true none),
  (.f, .op (.F (.bsl 136 5 1 [.nilp, .nilp, .nils, (.int .i64 0), (.bool false)] [(0, 5, (.st 0))])) true none),
  (.h [6], .op (.W (.app 136 5 (.st 2) (.st 0))) true none),
  (.q, .op (.P (.nn (.st 7))) true none),
  (.q, .op (.P (.fa 6 (.st 0))) true none),
  (.h [6], .op (.W (.st 1 (.st 0) (.st 2))) false none)])
 (.seq (.dreg [(.q, .op (.P (.mv (.sl r1))) true none),
  (.q, .op (.P (.fa 0 (.sl r0))) true none),
  (.r 0 0, .op (.R (.ld 1 false (.st 0))) true none),
  (.q, .op (.P (.nn (.st 0))) true none),
  (.q, .op (.P (.fa 4 (.st 0))) true none),
  (.r 0 0, .op (.R (.ld 1 false (.st 0))) true none),
  (.q, .op (.P (.mv (.sl r4))) true none),
  (.q, .op (.P (.ia 1 (.st 1) (.st 0))) true none),
  (.r 0 0, .op (.R (.ld 1 false (.st 0))) true none),
  (.r 0 0, .op (.R (.ld 5 true (.sl r0))) true none),
  (.q, .op (.P (.fa 1 (.sl r0))) true none),
  (.r 0 0, .op (.R (.ld 1 false (.st 0))) true none),
  (.h [], .op (.C (.cf 231 [(.st 11), (.st 3), (.st 2), (.st 0)])) false none)])
 (.ret)))
 (.skip)))
 (.seq (.seq (.dreg [(.q, .op (.P (.fa 0 (.sl r0))) true none),
  (.r 0 0, .op (.R (.ld 1 false (.st 0))) true none),
  (.q, .op (.P (.nn (.st 0))) true none),
  (.q, .op (.P (.fa 4 (.st 0))) true none),
  (.r 0 0, .op (.R (.ld 1 false (.st 0))) true none),
  (.q, .op (.P (.ln 1 (.st 0))) true none),
  (.q, .op (.P (.fa 0 (.sl r0))) true none),
  (.r 0 0, .op (.R (.ld 1 false (.st 0))) true none),
  (.q, .op (.P (.nn (.st 0))) true none),
  (.q, .op (.P (.fa 6 (.st 0))) true none),
  (.r 0 0, .op (.R (.ld 1 false (.st 0))) true none),
  (.q, .op (.P (.cmi .lss (.st 5) (.st 0))) false (some r9))])
 (.cond (.sl r9) (.seq (.reg [.el,
  .op (.C (.cf 242 [(.sl r1), (.k (.str 4 1954115685))])) false none])
 (.ret))
 (.skip)))
 (.seq (.reg [.op (.P (.fa 0 (.sl r0))) true none,
  .op (.R (.ld 1 false (.st 0))) true none,
  .op (.P (.nn (.st 0))) true none,
  .op (.P (.fa 0 (.st 0))) true none,
  .op (.R (.ld 1 false (.st 0))) false (some r2)])
 (.block 0 (.seq (.reg [.op (.P (.cmi .eql (.sl r2) (.k (.int .i64 6)))) true none,
  .op (.P (.mv (.st 0))) false (some r10)])
 (.cond (.sl r10) (.dreg [(.q, .op (.P (.mv (.sl r1))) true none),
  (.q, .op (.P (.fa 0 (.sl r0))) true none),
  (.r 0 0, .op (.R (.ld 1 false (.st 0))) true none),
  (.q, .op (.P (.nn (.st 0))) true none),
  (.q, .op (.P (.fa 4 (.st 0))) true none),
  (.r 0 0, .op (.R (.ld 1 false (.st 0))) true none),
  (.q, .op (.P (.ia 1 (.st 0) (.k (.int .i64 1)))) true none),
  (.r 0 0, .op (.R (.ld 1 false (.st 0))) true none),
  (.r 0 0, .op (.R (.ld 5 true (.sl r0))) true none),
  (.q, .op (.P (.fa 0 (.sl r0))) true none),
  (.r 0 0, .op (.R (.ld 1 false (.st 0))) true none),
  (.q, .op (.P (.nn (.st 0))) true none),
  (.q, .op (.P (.fa 2 (.st 0))) true none),
  (.r 0 0, .op (.R (.ld 1 false (.st 0))) true none),
  (.q, .op (.P (.fa 2 (.sl r0))) true none),
  (.r 0 0, .op (.R (.ld 1 false (.st 0))) true none),
  (.q, .op (.P (.ia 5 (.st 0) (.k (.int .i64 0)))) true none),
  (.r 0 0, .op (.R (.ld 5 true (.st 0))) true none),
  (.q, .op (.P (.fa 1 (.sl r0))) true none),
  (.r 0 0, .op (.R (.ld 1 false (.st 0))) true none),
  (.q, .op (.P (.bld [(.str 0 0), (.int .i64 0), (.int .i64 0), (.str 0 0), .nils, .nilp, .nilp] [(0, 1, (.st 6)), (1, 5, (.st 2)), (6, 1, (.st 0))])) true none),
  (.f, .op (.F (.bx 218 (.st 0))) true none),
  (.h [21], .op (.C (.cf 231 [(.st 21), (.st 14), (.st 13), (.st 0)])) false none)])
 (.seq (.reg [.op (.P (.cmi .eql (.sl r2) (.k (.int .i64 7)))) true none,
  .op (.P (.mv (.st 0))) false (some r11)])
 (.cond (.sl r11) (.reg [.el,
  .op (.R (.ld 5 true (.sl r0))) true none,
  .op (.C (.cf 245 [(.sl r1), (.st 0)])) false none])
 (.seq (.reg [.op (.P (.cmi .eql (.sl r2) (.k (.int .i64 13)))) true none,
  .op (.P (.mv (.st 0))) false (some r12)])
 (.cond (.sl r12) (.reg [.el,
  .op (.R (.ld 5 true (.sl r0))) true none,
  .op (.C (.cf 246 [(.sl r1), (.st 0)])) false none])
 (.seq (.reg [.op (.P (.cmi .eql (.sl r2) (.k (.int .i64 8)))) true none,
  .op (.P (.mv (.st 0))) false (some r13)])
 (.cond (.sl r13) (.reg [.el,
  .op (.R (.ld 5 true (.sl r0))) true none,
  .op (.C (.cf 247 [(.sl r1), (.st 0)])) false none])
 (.seq (.seq (.reg [.op (.P (.cmi .eql (.sl r2) (.k (.int .i64 9)))) true none,
  .op (.P (.mv (.st 0))) false (some r5)])
 (.cond (.sl r5) (.skip)
 (.reg [.op (.P (.cmi .eql (.sl r2) (.k (.int .i64 11)))) true none,
  .op (.P (.mv (.st 0))) false (some r5)])))
 (.cond (.sl r5) (.reg [.el,
  .op (.R (.ld 5 true (.sl r0))) true none,
  .op (.C (.cf 248 [(.sl r1), (.st 0)])) false none])
 (.seq (.reg [.op (.P (.cmi .eql (.sl r2) (.k (.int .i64 17)))) true none,
  .op (.P (.mv (.st 0))) false (some r14)])
 (.cond (.sl r14) (.reg [.el,
  .op (.R (.ld 5 true (.sl r0))) true none,
  .op (.C (.cf 249 [(.sl r1), (.st 0)])) false none])
 (.seq (.seq (.reg [.op (.P (.cmi .eql (.sl r2) (.k (.int .i64 15)))) true none,
  .op (.P (.mv (.st 0))) false (some r3)])
 (.cond (.sl r3) (.skip)
 (.seq (.reg [.op (.P (.cmi .eql (.sl r2) (.k (.int .i64 14)))) true none,
  .op (.P (.mv (.st 0))) false (some r3)])
 (.cond (.sl r3) (.skip)
 (.seq (.reg [.op (.P (.cmi .eql (.sl r2) (.k (.int .i64 20)))) true none,
  .op (.P (.mv (.st 0))) false (some r3)])
 (.cond (.sl r3) (.skip)
 (.seq (.reg [.op (.P (.cmi .eql (.sl r2) (.k (.int .i64 24)))) true none,
  .op (.P (.mv (.st 0))) false (some r3)])
 (.cond (.sl r3) (.skip)
 (.seq (.reg [.op (.P (.cmi .eql (.sl r2) (.k (.int .i64 25)))) true none,
  .op (.P (.mv (.st 0))) false (some r3)])
 (.cond (.sl r3) (.skip)
 (.reg [.op (.P (.cmi .eql (.sl r2) (.k (.int .i64 19)))) true none,
  .op (.P (.mv (.st 0))) false (some r3)])))))))))))
 (.cond (.sl r3) (.reg [.el,
  .op (.R (.ld 5 true (.sl r0))) true none,
  .op (.C (.cf 250 [(.sl r1), (.st 0)])) false none])
 (.seq (.reg [.el,
  .op (.R (.ld 5 true (.sl r0))) true none,
  .op (.C (.cf 251 [(.sl r1), (.st 0)])) true none,
  .el,
  .op (.P (.ext 0 (.st 0))) true none,
  .op (.P (.ext 1 (.st 1))) true none,
  .op (.F (.al 139 [(.int .i64 0), (.int .i64 0), (.str 0 0), .nils, .nilp])) false (some r16),
  .op (.W (.st 5 (.sl r16) (.st 1))) false none,
  .op (.P (.mv (.st 0))) false (some r6)])
 (.seq (.seq (.reg [.el,
  .op (.P (.cms .neq (.sl r6) (.k (.str 0 0)))) false (some r15)])
 (.cond (.sl r15) (.seq (.reg [.el,
  .el,
  .op (.C (.cf 242 [(.sl r1), (.sl r6)])) false none])
 (.ret))
 (.skip)))
 (.reg [.el,
  .op (.R (.ld 5 true (.sl r16))) true none,
  .op (.C (.cf 230 [(.sl r1), (.st 0)])) false none])))))))))))))))))))))))
  []

def m240 : SlotMap := [(10, r0), (4, r1), (0, r2), (9, r3), (11, r4), (8, r5), (6, r6), (17, r7), (2, r8), (3, r9)]
def c240 : VFn :=
 VFn.mk [some r2] (.seq (.reg [.op (.P (.mv (.k .nilm))) false (some r8),
  .op (.P (.mv (.k (.bool false)))) false (some r9)])
 (.seq (.reg [.op (.W (.mkm)) true none,
  .op (.P (.mv (.st 0))) false (some r1)])
 (.seq (.seq (.reg [.op (.P (.mv (.sl r2))) false (some r5),
  .op (.P (.ln 1 (.sl r5))) false (some r3),
  .op (.P (.mv (.k (.int .i64 0)))) false (some r0)])
 (.block 0 (.loop (.seq (.reg [.op (.P (.cmi .lss (.sl r0) (.sl r3))) false (some r4)])
 (.seq (.cond (.sl r4) (.skip)
 (.exit 0))
 (.seq (.block 1 (.seq (.reg [.op (.P (.ia 5 (.sl r5) (.sl r0))) true none,
  .op (.R (.ld 5 true (.st 0))) true none,
  .op (.F (.al 139 [(.int .i64 0), (.int .i64 0), (.str 0 0), .nils, .nilp])) false (some r6),
  .op (.W (.st 5 (.sl r6) (.st 0))) false none])
 (.seq (.reg [.op (.R (.ld 5 true (.sl r6))) true none,
  .el,
  .op (.C (.cf 253 [(.st 0), (.sl r1)])) true none,
  .op (.P (.no (.st 0))) false (some r7)])
 (.cond (.sl r7) (.seq (.reg [.op (.P (.mv (.k .nilm))) false (some r8),
  .op (.P (.mv (.k (.bool false)))) false (some r9)])
 (.ret))
 (.skip)))))
 (.reg [.op (.P (.ar .add (.sl r0) (.k (.int .i64 1)))) true none,
  .op (.P (.mv (.st 0))) false (some r0)])))))))
 (.seq (.reg [.el,
  .op (.P (.mv (.sl r1))) false (some r8),
  .op (.P (.mv (.k (.bool true)))) false (some r9)])
 (.ret)))))
  [.sl (.sl r8), .sl (.sl r9)]

def m241 : SlotMap := [(16, r0), (1, r1), (3, r2), (2, r3), (0, r4), (15, r5), (17, r6), (14, r7), (5, r8)]
def c241 : VFn :=
 VFn.mk [some r4] (.seq (.reg [.op (.F (.bx 139 (.sl r4))) false (some r1),
  .op (.F (.al 39 [(.int .i64 0), (.int .i64 0), (.str 0 0), .nils])) false (some r3)])
 (.seq (.reg [.op (.P (.fa 0 (.sl r1))) true none,
  .op (.R (.ld 1 false (.st 0))) true none,
  .op (.P (.fa 1 (.sl r1))) true none,
  .op (.R (.ld 1 false (.st 0))) true none,
  .op (.P (.fa 2 (.sl r1))) true none,
  .op (.R (.ld 1 false (.st 0))) true none,
  .op (.P (.bld [(.int .i64 0), (.int .i64 0), (.str 0 0), .nils] [(0, 1, (.st 4)), (1, 1, (.st 2)), (2, 1, (.st 0))])) true none,
  .op (.F (.al 39 [(.int .i64 0), (.int .i64 0), (.str 0 0), .nils])) false (some r2),
  .op (.W (.st 4 (.sl r2) (.st 0))) false none])
 (.seq (.seq (.reg [.op (.R (.ld 5 true (.sl r1))) true none,
  .op (.C (.cf 120 [(.st 0)])) false (some r7),
  .op (.P (.ln 1 (.sl r7))) false (some r5),
  .op (.P (.mv (.k (.int .i64 0)))) false (some r0)])
 (.block 0 (.loop (.seq (.reg [.op (.P (.cmi .lss (.sl r0) (.sl r5))) false (some r6)])
 (.seq (.cond (.sl r6) (.skip)
 (.exit 0))
 (.seq (.block 1 (.seq (.reg [.op (.P (.ia 5 (.sl r7) (.sl r0))) true none,
  .op (.R (.ld 5 true (.st 0))) true none,
  .op (.F (.al 139 [(.int .i64 0), (.int .i64 0), (.str 0 0), .nils, .nilp])) false (some r8),
  .op (.W (.st 5 (.sl r8) (.st 0))) false none])
 (.dreg [(.q, .op (.P (.fa 3 (.sl r2))) true none),
  (.r 0 1, .op (.R (.ld 1 false (.st 0))) true none),
  (.r 0 0, .op (.R (.ld 5 true (.sl r8))) true none),
  (.h [], .op (.C (.cf 241 [(.st 0)])) true none),
  (.f, .op (.F (.bsl 39 4 1 [(.int .i64 0), (.int .i64 0), (.str 0 0), .nils] [(0, 4, (.st 0))])) true none),
  (.h [4], .op (.W (.app 39 4 (.st 3) (.st 0))) true none),
  (.q, .op (.P (.fa 3 (.sl r2))) true none),
  (.h [4], .op (.W (.st 1 (.st 0) (.st 1))) false none)])))
 (.reg [.op (.P (.ar .add (.sl r0) (.k (.int .i64 1)))) true none,
  .op (.P (.mv (.st 0))) false (some r0)])))))))
 (.seq (.reg [.op (.R (.ld 4 true (.sl r2))) true none,
  .op (.W (.st 4 (.sl r3) (.st 0))) false none])
 (.ret)))))
  [.cell (.sl r3) 4 true]

def m242 : SlotMap := [(1, r0), (0, r1)]
def c242 : VFn :=
 VFn.mk [some r1, some r0] (.reg [.el,
  .el,
  .op (.P (.bld [(.int .i64 0), (.int .i64 0), (.str 0 0), (.int .i64 0), (.int .i64 0), (.str 0 0), .nils, .nils] [(0, 1, (.k (.int .i64 9))), (2, 1, (.sl r0))])) true none,
  .op (.C (.cf 238 [(.sl r1), (.st 0)])) false none])
  []

def m243 : SlotMap := [(4, r0), (3, r1), (23, r2), (5, r3), (0, r4), (1, r5), (22, r6), (24, r7), (21, r8), (7, r9), (9, r10), (35, r11), (8, r12), (53, r13)]
def c243 : VFn :=
 VFn.mk [some r4, some r5] (.seq (.reg [.op (.F (.bx 136 (.sl r5))) false (some r1)])
 (.seq (.reg [.op (.P (.fa 0 (.sl r1))) true none,
  .op (.R (.ld 1 false (.st 0))) true none,
  .op (.P (.nn (.st 0))) true none,
  .op (.P (.fa 7 (.st 0))) true none,
  .op (.R (.ld 1 false (.st 0))) true none,
  .op (.P (.bld [(.int .i64 0), (.int .i64 0), (.str 0 0), .nils, .nilp] [(0, 1, (.k (.int .i64 7))), (1, 1, (.st 0))])) true none,
  .op (.F (.al 139 [(.int .i64 0), (.int .i64 0), (.str 0 0), .nils, .nilp])) false (some r0),
  .op (.W (.st 5 (.sl r0) (.st 0))) false none])
 (.seq (.reg [.op (.F (.bsl 5 1 0 [] [])) true none,
  .op (.P (.mv (.st 0))) false (some r3)])
 (.seq (.seq (.reg [.op (.P (.fa 0 (.sl r1))) true none,
  .op (.R (.ld 1 false (.st 0))) true none,
  .op (.P (.nn (.st 0))) true none,
  .op (.P (.fa 8 (.st 0))) true none,
  .op (.R (.ld 1 false (.st 0))) false (some r8),
  .op (.P (.ln 1 (.sl r8))) false (some r6),
  .op (.P (.mv (.k (.int .i64 0)))) false (some r2)])
 (.block 0 (.loop (.seq (.reg [.op (.P (.cmi .lss (.sl r2) (.sl r6))) false (some r7)])
 (.seq (.cond (.sl r7) (.skip)
 (.exit 0))
 (.seq (.block 1 (.seq (.reg [.op (.P (.ia 1 (.sl r8) (.sl r2))) true none,
  .op (.R (.ld 1 false (.st 0))) true none,
  .op (.P (.mv (.st 0))) false (some r9)])
 (.seq (.reg [.op (.P (.fa 1 (.sl r1))) true none,
  .op (.R (.ld 1 false (.st 0))) true none,
  .el,
  .op (.C (.cf 254 [(.st 0), (.sl r9)])) true none,
  .el,
  .op (.P (.ext 0 (.st 0))) true none,
  .op (.P (.ext 1 (.st 1))) true none,
  .op (.F (.al 139 [(.int .i64 0), (.int .i64 0), (.str 0 0), .nils, .nilp])) false (some r12),
  .op (.W (.st 5 (.sl r12) (.st 1))) false none,
  .op (.P (.mv (.st 0))) false (some r10)])
 (.seq (.seq (.reg [.el,
  .op (.P (.no (.sl r10))) false (some r11)])
 (.cond (.sl r11) (.seq (.reg [.op (.P (.mv (.sl r3))) true none,
  .op (.F (.bsl 5 1 1 [(.int .u8 0)] [(0, 1, (.k (.int .u8 48)))])) true none,
  .op (.W (.app 5 1 (.st 1) (.st 0))) true none,
  .op (.P (.mv (.st 0))) false (some r3)])
 (.exit 1))
 (.skip)))
 (.seq (.reg [.op (.P (.mv (.sl r3))) true none,
  .op (.F (.bsl 5 1 1 [(.int .u8 0)] [(0, 1, (.k (.int .u8 49)))])) true none,
  .op (.W (.app 5 1 (.st 1) (.st 0))) true none,
  .op (.P (.mv (.st 0))) false (some r3)])
 (.reg [.op (.P (.fa 3 (.sl r0))) true none,
  .op (.R (.ld 1 false (.st 0))) true none,
  .op (.R (.ld 5 true (.sl r12))) true none,
  .op (.F (.bsl 139 5 1 [(.int .i64 0), (.int .i64 0), (.str 0 0), .nils, .nilp] [(0, 5, (.st 0))])) true none,
  .op (.W (.app 139 5 (.st 2) (.st 0))) true none,
  .op (.P (.fa 3 (.sl r0))) true none,
  .op (.W (.st 1 (.st 0) (.st 1))) false none]))))))
 (.reg [.op (.P (.ar .add (.sl r2) (.k (.int .i64 1)))) true none,
  .op (.P (.mv (.st 0))) false (some r2)])))))))
 (.seq (.reg [.el,
  .op (.R (.b2s (.sl r3))) true none,
  .op (.P (.fa 2 (.sl r0))) true none,
  .op (.W (.st 1 (.st 0) (.st 1))) false none])
 (.seq (.seq (.reg [.op (.R (.ld 5 true (.sl r0))) true none,
  .op (.C (.cf 53 [(.st 0)])) false (some r13)])
 (.cond (.sl r13) (.seq (.reg [.el,
  .op (.C (.cf 242 [(.sl r4), (.k (.str 5 465491355493))])) false none])
 (.ret))
 (.skip)))
 (.reg [.el,
  .op (.R (.ld 5 true (.sl r0))) true none,
  .op (.C (.cf 230 [(.sl r4), (.st 0)])) false none])))))))
  []

def m244 : SlotMap := [(3, r0), (1, r1), (4, r2), (0, r3)]
def c244 : VFn :=
 VFn.mk [some r3, some r1] (.seq (.reg [.op (.F (.bx 136 (.sl r1))) false (some r0)])
 (.seq (.reg [.op (.P (.fa 0 (.sl r0))) true none,
  .op (.R (.ld 1 false (.st 0))) true none,
  .op (.P (.nn (.st 0))) true none,
  .op (.P (.fa 1 (.st 0))) true none,
  .op (.R (.ld 1 false (.st 0))) true none,
  .op (.P (.mx false [(.st 0), (.k (.int .i64 (-1)))])) true none,
  .op (.P (.bld [(.int .i64 0), (.int .i64 0), (.str 0 0), (.int .i64 0), (.int .i64 0), (.str 0 0), .nils, .nils] [(0, 1, (.k (.int .i64 7))), (1, 1, (.st 0))])) true none,
  .op (.F (.al 41 [(.int .i64 0), (.int .i64 0), (.str 0 0), (.int .i64 0), (.int .i64 0), (.str 0 0), .nils, .nils])) false (some r2),
  .op (.W (.st 8 (.sl r2) (.st 0))) false none])
 (.dreg [(.q, .op (.P (.mv (.sl r3))) true none),
  (.q, .op (.P (.mv (.sl r3))) true none),
  (.q, .op (.P (.mv (.sl r3))) true none),
  (.q, .op (.P (.mv (.sl r3))) true none),
  (.r 0 1, .op (.R (.ld 5 true (.sl r0))) true none),
  (.r 0 0, .op (.R (.ld 8 true (.sl r2))) true none),
  (.q, .op (.P (.nn (.st 5))) true none),
  (.q, .op (.P (.fa 5 (.st 0))) true none),
  (.h [], .op (.W (.st 1 (.st 0) (.k (.int .i64 1)))) false none),
  (.q, .op (.P (.nn (.st 6))) true none),
  (.q, .op (.P (.fa 25 (.st 0))) true none),
  (.h [], .op (.W (.st 5 (.st 0) (.st 5))) false none),
  (.q, .op (.P (.nn (.st 7))) true none),
  (.q, .op (.P (.fa 17 (.st 0))) true none),
  (.h [], .op (.W (.st 8 (.st 0) (.st 6))) false none),
  (.q, .op (.P (.nn (.st 8))) true none),
  (.q, .op (.P (.fa 30 (.st 0))) true none),
  (.h [], .op (.W (.st 1 (.st 0) (.sl r2))) false none)])))
  []

def m245 : SlotMap := [(3, r0), (0, r1), (4, r2), (1, r3), (21, r4), (27, r5)]
def c245 : VFn :=
 VFn.mk [some r1, some r3] (.seq (.reg [.op (.F (.bx 136 (.sl r3))) false (some r0)])
 (.seq (.reg [.op (.P (.fa 2 (.sl r0))) true none,
  .op (.R (.ld 1 false (.st 0))) true none,
  .op (.P (.ia 5 (.st 0) (.k (.int .i64 0)))) true none,
  .op (.R (.ld 5 true (.st 0))) true none,
  .op (.F (.al 139 [(.int .i64 0), (.int .i64 0), (.str 0 0), .nils, .nilp])) false (some r2),
  .op (.W (.st 5 (.sl r2) (.st 0))) false none])
 (.block 0 (.seq (.reg [.op (.P (.fa 0 (.sl r2))) true none,
  .op (.R (.ld 1 false (.st 0))) true none,
  .op (.P (.cmi .neq (.st 0) (.k (.int .i64 3)))) true none,
  .op (.P (.mv (.st 0))) false (some r4)])
 (.cond (.sl r4) (.reg [.el,
  .op (.C (.cf 242 [(.sl r1), (.k (.str 4 1954115685))])) false none])
 (.seq (.reg [.op (.P (.fa 1 (.sl r2))) true none,
  .op (.R (.ld 1 false (.st 0))) true none,
  .op (.P (.cmi .neq (.st 0) (.k (.int .i64 0)))) true none,
  .op (.P (.mv (.st 0))) false (some r5)])
 (.cond (.sl r5) (.dreg [(.q, .op (.P (.mv (.sl r1))) true none),
  (.q, .op (.P (.fa 0 (.sl r0))) true none),
  (.r 0 0, .op (.R (.ld 1 false (.st 0))) true none),
  (.q, .op (.P (.nn (.st 0))) true none),
  (.q, .op (.P (.fa 4 (.st 0))) true none),
  (.r 0 0, .op (.R (.ld 1 false (.st 0))) true none),
  (.q, .op (.P (.ia 1 (.st 0) (.k (.int .i64 1)))) true none),
  (.r 0 0, .op (.R (.ld 1 false (.st 0))) true none),
  (.r 0 0, .op (.R (.ld 5 true (.sl r0))) true none),
  (.q, .op (.P (.fa 1 (.sl r0))) true none),
  (.r 0 0, .op (.R (.ld 1 false (.st 0))) true none),
  (.h [], .op (.C (.cf 231 [(.st 10), (.st 3), (.st 2), (.st 0)])) false none)])
 (.dreg [(.q, .op (.P (.mv (.sl r1))) true none),
  (.q, .op (.P (.fa 0 (.sl r0))) true none),
  (.r 0 0, .op (.R (.ld 1 false (.st 0))) true none),
  (.q, .op (.P (.nn (.st 0))) true none),
  (.q, .op (.P (.fa 4 (.st 0))) true none),
  (.r 0 0, .op (.R (.ld 1 false (.st 0))) true none),
  (.q, .op (.P (.ia 1 (.st 0) (.k (.int .i64 2)))) true none),
  (.r 0 0, .op (.R (.ld 1 false (.st 0))) true none),
  (.r 0 0, .op (.R (.ld 5 true (.sl r0))) true none),
  (.q, .op (.P (.fa 1 (.sl r0))) true none),
  (.r 0 0, .op (.R (.ld 1 false (.st 0))) true none),
  (.h [], .op (.C (.cf 231 [(.st 10), (.st 3), (.st 2), (.st 0)])) false none)]))))))))
  []

def m246 : SlotMap := [(0, r0), (1, r1), (3, r2), (11, r3)]
def c246 : VFn :=
 VFn.mk [some r0, some r1] (.seq (.reg [.op (.F (.bx 136 (.sl r1))) false (some r2)])
 (.seq (.dreg [(.q, .op (.P (.mv (.sl r0))) true none),
  (.r 0 0, .op (.R (.ld 5 true (.sl r2))) true none),
  (.q, .op (.P (.fa 2 (.sl r2))) true none),
  (.r 0 0, .op (.R (.ld 1 false (.st 0))) true none),
  (.q, .op (.P (.ia 5 (.st 0) (.k (.int .i64 0)))) true none),
  (.r 0 0, .op (.R (.ld 5 true (.st 0))) true none),
  (.h [], .op (.C (.cf 232 [(.st 5), (.st 4), (.st 0)])) true none),
  (.q, .op (.P (.no (.st 0))) false (some r3))])
 (.cond (.sl r3) (.reg [.el,
  .op (.C (.cf 242 [(.sl r0), (.k (.str 5 469786452840))])) false none])
 (.skip))))
  []

def m247 : SlotMap := [(3, r0), (0, r1), (4, r2), (6, r3), (1, r4), (9, r5), (40, r6), (46, r7), (78, r8), (5, r9)]
def c247 : VFn :=
 VFn.mk [some r1, some r4] (.seq (.reg [.op (.F (.bx 136 (.sl r4))) false (some r0)])
 (.seq (.seq (.reg [.op (.P (.fa 0 (.sl r0))) true none,
  .op (.R (.ld 1 false (.st 0))) true none,
  .op (.C (.cf 252 [(.st 0)])) false (some r5)])
 (.cond (.sl r5) (.seq (.reg [.op (.P (.fa 2 (.sl r0))) true none,
  .op (.R (.ld 1 false (.st 0))) true none,
  .op (.P (.fa 2 (.sl r0))) true none,
  .op (.R (.ld 1 false (.st 0))) true none,
  .op (.P (.ln 1 (.st 0))) true none,
  .op (.P (.ar .sub (.st 0) (.k (.int .i64 1)))) true none,
  .op (.P (.ia 5 (.st 4) (.st 0))) true none,
  .op (.R (.ld 5 true (.st 0))) true none,
  .op (.F (.al 139 [(.int .i64 0), (.int .i64 0), (.str 0 0), .nils, .nilp])) false (some r2),
  .op (.W (.st 5 (.sl r2) (.st 0))) false none])
 (.seq (.block 0 (.seq (.reg [.op (.P (.fa 0 (.sl r2))) true none,
  .op (.R (.ld 1 false (.st 0))) true none,
  .op (.P (.cmi .neq (.st 0) (.k (.int .i64 3)))) true none,
  .op (.P (.mv (.st 0))) false (some r6)])
 (.cond (.sl r6) (.reg [.el,
  .op (.C (.cf 242 [(.sl r1), (.k (.str 4 1954115685))])) false none])
 (.seq (.dreg [(.q, .op (.P (.fa 2 (.sl r0))) true none),
  (.r 0 0, .op (.R (.ld 1 false (.st 0))) true none),
  (.q, .op (.P (.ln 1 (.st 0))) true none),
  (.q, .op (.P (.cmi .eql (.st 0) (.k (.int .i64 2)))) true none),
  (.q, .op (.P (.mv (.st 0))) true none),
  (.q, .op (.G (.st 0) false (.P (.fa 1 (.sl r2)))) true none),
  (.r 0 0, .op (.G (.st 1) false (.R (.ld 1 false (.st 0)))) true none),
  (.q, .op (.G (.st 2) false (.P (.cmi .neq (.st 0) (.k (.int .i64 0))))) true none),
  (.q, .op (.G (.st 3) false (.P (.fa 0 (.sl r0)))) true none),
  (.r 0 0, .op (.G (.st 4) false (.R (.ld 1 false (.st 0)))) true none),
  (.q, .op (.G (.st 5) false (.P (.nn (.st 0)))) true none),
  (.q, .op (.G (.st 6) false (.P (.fa 2 (.st 0)))) true none),
  (.r 0 0, .op (.G (.st 7) false (.R (.ld 1 false (.st 0)))) true none),
  (.q, .op (.G (.st 8) false (.P (.cms .eql (.st 0) (.k (.str 3 6385252))))) true none),
  (.q, .op (.G (.st 9) false (.P (.cmb true (.st 6) (.st 0)))) true none),
  (.q, .op (.P (.pick (.st 10) (.k (.bool true)) (.st 0))) true none),
  (.q, .op (.P (.mv (.st 0))) false (some r7))])
 (.cond (.sl r7) (.reg [.el,
  .op (.R (.ld 5 true (.sl r2))) true none,
  .op (.C (.cf 230 [(.sl r1), (.st 0)])) false none])
 (.seq (.dreg [(.q, .op (.P (.mv (.sl r1))) true none),
  (.q, .op (.P (.mv (.sl r1))) true none),
  (.q, .op (.P (.nn (.st 0))) true none),
  (.q, .op (.P (.fa 6 (.st 0))) true none),
  (.r 0 0, .op (.R (.ld 1 false (.st 0))) true none),
  (.r 0 0, .op (.R (.ld 5 true (.sl r0))) true none),
  (.f, .op (.F (.bsl 136 5 1 [.nilp, .nilp, .nils, (.int .i64 0), (.bool false)] [(0, 5, (.st 0))])) true none),
  (.h [6], .op (.W (.app 136 5 (.st 2) (.st 0))) true none),
  (.q, .op (.P (.nn (.st 7))) true none),
  (.q, .op (.P (.fa 6 (.st 0))) true none),
  (.h [6], .op (.W (.st 1 (.st 0) (.st 2))) false none)])
 (.dreg [(.q, .op (.P (.mv (.sl r1))) true none),
  (.q, .op (.P (.fa 0 (.sl r0))) true none),
  (.r 0 0, .op (.R (.ld 1 false (.st 0))) true none),
  (.q, .op (.P (.nn (.st 0))) true none),
  (.q, .op (.P (.fa 4 (.st 0))) true none),
  (.r 0 0, .op (.R (.ld 1 false (.st 0))) true none),
  (.q, .op (.P (.ia 1 (.st 0) (.k (.int .i64 1)))) true none),
  (.r 0 0, .op (.R (.ld 1 false (.st 0))) true none),
  (.r 0 0, .op (.R (.ld 5 true (.sl r0))) true none),
  (.q, .op (.P (.fa 1 (.sl r0))) true none),
  (.r 0 0, .op (.R (.ld 1 false (.st 0))) true none),
  (.h [], .op (.C (.cf 231 [(.st 10), (.st 3), (.st 2), (.st 0)])) false none)])))))))
 (.ret)))
 (.skip)))
 (.seq (.dreg [(.q, .op (.P (.fa 0 (.sl r0))) true none),
  (.r 0 0, .op (.R (.ld 1 false (.st 0))) true none),
  (.q, .op (.P (.nn (.st 0))) true none),
  (.q, .op (.P (.fa 2 (.st 0))) true none),
  (.r 0 0, .op (.R (.ld 1 false (.st 0))) true none),
  (.q, .op (.P (.fa 2 (.sl r0))) true none),
  (.r 0 0, .op (.R (.ld 1 false (.st 0))) true none),
  (.h [], .op (.C (.cf 255 [(.st 2), (.st 0)])) true none),
  (.q, .op (.P (.mv (.st 0))) true none),
  (.q, .op (.P (.ext 0 (.st 0))) true none),
  (.q, .op (.P (.ext 1 (.st 1))) true none),
  (.f, .op (.F (.al 139 [(.int .i64 0), (.int .i64 0), (.str 0 0), .nils, .nilp])) false (some r9)),
  (.h [11], .op (.W (.st 5 (.sl r9) (.st 1))) false none),
  (.q, .op (.P (.mv (.st 0))) false (some r3))])
 (.seq (.seq (.reg [.el,
  .op (.P (.cms .neq (.sl r3) (.k (.str 0 0)))) false (some r8)])
 (.cond (.sl r8) (.seq (.reg [.el,
  .el,
  .op (.C (.cf 242 [(.sl r1), (.sl r3)])) false none])
 (.ret))
 (.skip)))
 (.reg [.el,
  .op (.R (.ld 5 true (.sl r9))) true none,
  .op (.C (.cf 230 [(.sl r1), (.st 0)])) false none])))))
  []

def m248 : SlotMap := [(6, r0), (0, r1), (3, r2), (4, r3), (1, r4), (16, r5), (7, r6), (29, r7), (36, r8), (8, r9), (84, r10), (93, r11), (5, r12)]
def c248 : VFn :=
 VFn.mk [some r1, some r4] (.seq (.reg [.op (.F (.bx 136 (.sl r4))) false (some r2)])
 (.seq (.reg [.op (.F (.al 112 [.nils, .nilp])) false (some r3)])
 (.seq (.reg [.op (.P (.mv (.k .nilp))) false (some r12)])
 (.seq (.reg [.op (.P (.fa 2 (.sl r2))) true none,
  .op (.R (.ld 1 false (.st 0))) true none,
  .op (.P (.mv (.st 0))) false (some r0)])
 (.seq (.seq (.reg [.op (.P (.fa 0 (.sl r2))) true none,
  .op (.R (.ld 1 false (.st 0))) true none,
  .op (.P (.nn (.st 0))) true none,
  .op (.P (.fa 0 (.st 0))) true none,
  .op (.R (.ld 1 false (.st 0))) true none,
  .op (.P (.cmi .eql (.st 0) (.k (.int .i64 9)))) false (some r5)])
 (.cond (.sl r5) (.seq (.reg [.op (.P (.mv (.k (.bool false)))) false (some r6)])
 (.seq (.reg [.el,
  .op (.P (.fa 0 (.sl r2))) true none,
  .op (.R (.ld 1 false (.st 0))) true none,
  .op (.P (.nn (.st 0))) true none,
  .op (.P (.fa 2 (.st 0))) true none,
  .op (.R (.ld 1 false (.st 0))) true none,
  .el,
  .op (.C (.cf 256 [(.sl r1), (.st 0), (.sl r0)])) true none,
  .el,
  .op (.P (.ext 0 (.st 0))) true none,
  .op (.P (.ext 1 (.st 1))) true none,
  .op (.W (.st 2 (.sl r3) (.st 1))) false none,
  .op (.P (.mv (.st 0))) false (some r6)])
 (.seq (.reg [.el,
  .op (.P (.no (.sl r6))) false (some r7)])
 (.cond (.sl r7) (.seq (.reg [.el,
  .op (.C (.cf 242 [(.sl r1), (.k (.str 4 1851878757))])) false none])
 (.ret))
 (.skip)))))
 (.seq (.seq (.reg [.el,
  .op (.P (.ia 5 (.sl r0) (.k (.int .i64 0)))) true none,
  .op (.P (.fa 0 (.st 0))) true none,
  .op (.R (.ld 1 false (.st 0))) true none,
  .op (.P (.cmi .neq (.st 0) (.k (.int .i64 7)))) false (some r8)])
 (.cond (.sl r8) (.seq (.reg [.el,
  .op (.C (.cf 242 [(.sl r1), (.k (.str 4 1954115685))])) false none])
 (.ret))
 (.skip)))
 (.seq (.dreg [(.q, .op (.P (.mv (.sl r1))) true none),
  (.q, .op (.P (.nn (.st 0))) true none),
  (.q, .op (.P (.fa 0 (.st 0))) true none),
  (.r 0 0, .op (.R (.ld 1 false (.st 0))) true none),
  (.q, .op (.P (.nn (.st 0))) true none),
  (.q, .op (.P (.fa 0 (.st 0))) true none),
  (.r 0 0, .op (.R (.ld 1 false (.st 0))) true none),
  (.q, .op (.P (.mv (.sl r0))) true none),
  (.q, .op (.P (.ia 5 (.st 0) (.k (.int .i64 0)))) true none),
  (.q, .op (.P (.fa 1 (.st 0))) true none),
  (.r 0 0, .op (.R (.ld 1 false (.st 0))) true none),
  (.q, .op (.P (.ia 1 (.st 4) (.st 0))) true none),
  (.r 0 0, .op (.R (.ld 1 false (.st 0))) true none),
  (.q, .op (.P (.mv (.st 0))) false (some r9))])
 (.seq (.dreg [(.q, .op (.P (.mv (.sl r9))) true none),
  (.q, .op (.P (.nn (.st 0))) true none),
  (.q, .op (.P (.fa 3 (.st 0))) true none),
  (.r 0 1, .op (.R (.ld 1 false (.st 0))) true none),
  (.q, .op (.P (.mv (.sl r9))) true none),
  (.q, .op (.P (.nn (.st 0))) true none),
  (.q, .op (.P (.fa 4 (.st 0))) true none),
  (.r 0 1, .op (.R (.ld 1 false (.st 0))) true none),
  (.q, .op (.P (.ia 1 (.st 0) (.k (.int .i64 0)))) true none),
  (.r 0 1, .op (.R (.ld 1 false (.st 0))) true none),
  (.q, .op (.P (.bld [.nils, .nilp] [(0, 1, (.st 6)), (1, 1, (.st 0))])) true none),
  (.q, .op (.P (.mv (.sl r9))) true none),
  (.q, .op (.P (.mv (.sl r0))) true none),
  (.q, .op (.P (.ia 5 (.st 0) (.k (.int .i64 0)))) true none),
  (.r 0 0, .op (.R (.ld 5 true (.st 0))) true none),
  (.h [], .op (.C (.cf 257 [(.st 3), (.st 0)])) true none),
  (.h [], .op (.W (.st 2 (.sl r3) (.st 5))) false none),
  (.q, .op (.P (.mv (.st 0))) false (some r12))])
 (.reg [.op (.P (.mv (.sl r0))) true none,
  .op (.R (.sll 139 5 (.st 0) (some (.k (.int .i64 1))) none)) true none,
  .op (.P (.mv (.st 0))) false (some r0)]))))))
 (.block 0 (.seq (.reg [.el,
  .op (.P (.ln 1 (.sl r0))) true none,
  .op (.P (.fa 0 (.sl r3))) true none,
  .op (.R (.ld 1 false (.st 0))) true none,
  .op (.P (.ln 1 (.st 0))) true none,
  .op (.P (.cmi .neq (.st 3) (.st 0))) true none,
  .op (.P (.mv (.st 0))) false (some r10)])
 (.cond (.sl r10) (.reg [.el,
  .op (.C (.cf 242 [(.sl r1), (.k (.str 4 1954115685))])) false none])
 (.seq (.reg [.op (.P (.fa 3 (.sl r2))) true none,
  .op (.R (.ld 1 false (.st 0))) true none,
  .op (.P (.cmi .geq (.st 0) (.k (.int .i64 60)))) true none,
  .op (.P (.mv (.st 0))) false (some r11)])
 (.cond (.sl r11) (.reg [.el,
  .op (.C (.cf 242 [(.sl r1), (.k (.str 4 1684366704))])) false none])
 (.dreg [(.q, .op (.P (.mv (.sl r1))) true none),
  (.q, .op (.P (.fa 1 (.sl r3))) true none),
  (.r 0 1, .op (.R (.ld 1 false (.st 0))) true none),
  (.q, .op (.P (.mv (.sl r12))) true none),
  (.q, .op (.P (.fa 0 (.sl r3))) true none),
  (.r 0 0, .op (.R (.ld 1 false (.st 0))) true none),
  (.q, .op (.P (.mv (.sl r0))) true none),
  (.h [], .op (.C (.cf 54 [(.st 3), (.st 1), (.st 0)])) true none),
  (.q, .op (.P (.fa 3 (.sl r2))) true none),
  (.r 0 1, .op (.R (.ld 1 false (.st 0))) true none),
  (.q, .op (.P (.ar .add (.st 0) (.k (.int .i64 1)))) true none),
  (.q, .op (.P (.bld [.nilp, .nilp, .nils, (.int .i64 0), (.bool false)] [(0, 1, (.st 8)), (1, 1, (.st 3)), (3, 1, (.st 0)), (4, 1, (.k (.bool true)))])) true none),
  (.q, .op (.P (.nn (.st 11))) true none),
  (.q, .op (.P (.fa 7 (.st 0))) true none),
  (.h [], .op (.W (.st 5 (.st 0) (.st 2))) false none)])))))))))))
  []

def m249 : SlotMap := [(0, r0), (3, r1), (1, r2), (8, r3), (25, r4)]
def c249 : VFn :=
 VFn.mk [some r0, some r2] (.seq (.reg [.op (.F (.bx 136 (.sl r2))) false (some r1)])
 (.block 0 (.seq (.dreg [(.q, .op (.P (.fa 4 (.sl r1))) true none),
  (.r 0 0, .op (.R (.ld 1 false (.st 0))) true none),
  (.q, .op (.P (.mv (.st 0))) true none),
  (.q, .op (.G (.st 0) false (.P (.fa 2 (.sl r1)))) true none),
  (.r 0 0, .op (.G (.st 1) false (.R (.ld 1 false (.st 0)))) true none),
  (.q, .op (.G (.st 2) false (.P (.ln 1 (.st 0)))) true none),
  (.q, .op (.G (.st 3) false (.P (.mv (.sl r0)))) true none),
  (.q, .op (.G (.st 4) false (.P (.nn (.st 0)))) true none),
  (.q, .op (.G (.st 5) false (.P (.fa 1 (.st 0)))) true none),
  (.q, .op (.G (.st 6) false (.P (.fa 0 (.st 0)))) true none),
  (.r 0 0, .op (.G (.st 7) false (.R (.ld 1 false (.st 0)))) true none),
  (.q, .op (.G (.st 8) false (.P (.ln 1 (.st 0)))) true none),
  (.q, .op (.G (.st 9) false (.P (.cmi .neq (.st 6) (.st 0)))) true none),
  (.q, .op (.P (.pick (.st 10) (.k (.bool true)) (.st 0))) true none),
  (.q, .op (.P (.mv (.st 0))) false (some r3))])
 (.cond (.sl r3) (.reg [.el,
  .op (.C (.cf 242 [(.sl r0), (.k (.str 4 1954115685))])) false none])
 (.seq (.reg [.op (.P (.fa 2 (.sl r1))) true none,
  .op (.R (.ld 1 false (.st 0))) true none,
  .op (.C (.cf 39 [(.st 0)])) true none,
  .op (.P (.mv (.st 0))) false (some r4)])
 (.cond (.sl r4) (.reg [.el,
  .op (.C (.cf 242 [(.sl r0), (.k (.str 5 465491355493))])) false none])
 (.reg [.el,
  .op (.P (.fa 2 (.sl r1))) true none,
  .op (.R (.ld 1 false (.st 0))) true none,
  .op (.C (.cf 40 [(.sl r0), (.st 0)])) false none])))))))
  []

def m250 : SlotMap := [(0, r0), (5, r1), (40, r2), (4, r3), (3, r4), (16, r5), (8, r6), (1, r7), (17, r8), (19, r9), (25, r10), (6, r11), (34, r12), (41, r13), (50, r14), (59, r15), (68, r16), (76, r17), (85, r18), (7, r19)]
def c250 : VFn :=
 VFn.mk [some r0, some r7] (.seq (.reg [.op (.F (.bx 136 (.sl r7))) false (some r4)])
 (.seq (.dreg [(.q, .op (.P (.fa 0 (.sl r4))) true none),
  (.r 0 0, .op (.R (.ld 1 false (.st 0))) true none),
  (.q, .op (.P (.fa 2 (.sl r4))) true none),
  (.r 0 0, .op (.R (.ld 1 false (.st 0))) true none),
  (.q, .op (.P (.mv (.st 2))) false (some r3)),
  (.q, .op (.P (.mv (.st 0))) false (some r1))])
 (.seq (.reg [.op (.P (.mv (.k (.int .i64 6)))) false (some r11)])
 (.seq (.seq (.reg [.el,
  .op (.P (.nn (.sl r3))) true none,
  .op (.P (.fa 0 (.st 0))) true none,
  .op (.R (.ld 1 false (.st 0))) false (some r5)])
 (.block 0 (.seq (.reg [.op (.P (.cmi .eql (.sl r5) (.k (.int .i64 20)))) true none,
  .op (.P (.mv (.st 0))) false (some r8)])
 (.cond (.sl r8) (.reg [.op (.P (.mv (.k (.int .i64 2)))) false (some r11)])
 (.seq (.reg [.op (.P (.cmi .eql (.sl r5) (.k (.int .i64 19)))) true none,
  .op (.P (.mv (.st 0))) false (some r9)])
 (.cond (.sl r9) (.reg [.op (.P (.mv (.k (.int .i64 4)))) false (some r11)])
 (.skip)))))))
 (.seq (.seq (.reg [.el,
  .op (.P (.nn (.sl r3))) true none,
  .op (.P (.fa 0 (.st 0))) true none,
  .op (.R (.ld 1 false (.st 0))) true none,
  .op (.P (.cmi .eql (.st 0) (.k (.int .i64 14)))) false (some r10)])
 (.cond (.sl r10) (.seq (.reg [.el,
  .op (.R (.ld 5 true (.sl r4))) true none,
  .op (.C (.cf 258 [(.sl r0), (.st 0)])) false none])
 (.ret))
 (.skip)))
 (.seq (.seq (.reg [.el,
  .op (.P (.ia 5 (.sl r1) (.k (.int .i64 0)))) true none,
  .op (.P (.fa 0 (.st 0))) true none,
  .op (.R (.ld 1 false (.st 0))) true none,
  .el,
  .op (.P (.cmi .neq (.st 0) (.sl r11))) false (some r12)])
 (.cond (.sl r12) (.seq (.reg [.el,
  .op (.C (.cf 242 [(.sl r0), (.k (.str 4 1954115685))])) false none])
 (.ret))
 (.skip)))
 (.seq (.reg [.el,
  .op (.P (.nn (.sl r3))) true none,
  .op (.P (.fa 0 (.st 0))) true none,
  .op (.R (.ld 1 false (.st 0))) false (some r2)])
 (.block 1 (.seq (.reg [.op (.P (.cmi .eql (.sl r2) (.k (.int .i64 20)))) true none,
  .op (.P (.mv (.st 0))) false (some r13)])
 (.cond (.sl r13) (.reg [.el,
  .el,
  .op (.P (.ia 5 (.sl r1) (.k (.int .i64 0)))) true none,
  .op (.P (.fa 1 (.st 0))) true none,
  .op (.R (.ld 1 false (.st 0))) true none,
  .op (.P (.bld [(.int .i64 0), (.int .i64 0), (.str 0 0), (.int .i64 0), (.int .i64 0), (.str 0 0), .nils, .nils] [(0, 1, (.k (.int .i64 2))), (1, 1, (.st 0))])) true none,
  .op (.C (.cf 259 [(.sl r0), (.st 0)])) false none])
 (.seq (.reg [.op (.P (.cmi .eql (.sl r2) (.k (.int .i64 24)))) true none,
  .op (.P (.mv (.st 0))) false (some r14)])
 (.cond (.sl r14) (.reg [.el,
  .el,
  .op (.P (.ia 5 (.sl r1) (.k (.int .i64 0)))) true none,
  .op (.P (.fa 1 (.st 0))) true none,
  .op (.R (.ld 1 false (.st 0))) true none,
  .op (.P (.bld [(.int .i64 0), (.int .i64 0), (.str 0 0), (.int .i64 0), (.int .i64 0), (.str 0 0), .nils, .nils] [(0, 1, (.k (.int .i64 5))), (1, 1, (.st 0))])) true none,
  .op (.C (.cf 259 [(.sl r0), (.st 0)])) false none])
 (.seq (.reg [.op (.P (.cmi .eql (.sl r2) (.k (.int .i64 25)))) true none,
  .op (.P (.mv (.st 0))) false (some r15)])
 (.cond (.sl r15) (.reg [.el,
  .el,
  .op (.P (.ia 5 (.sl r1) (.k (.int .i64 0)))) true none,
  .op (.P (.fa 1 (.st 0))) true none,
  .op (.R (.ld 1 false (.st 0))) true none,
  .op (.P (.bld [(.int .i64 0), (.int .i64 0), (.str 0 0), (.int .i64 0), (.int .i64 0), (.str 0 0), .nils, .nils] [(0, 1, (.k (.int .i64 6))), (1, 1, (.st 0))])) true none,
  .op (.C (.cf 259 [(.sl r0), (.st 0)])) false none])
 (.seq (.reg [.op (.P (.cmi .eql (.sl r2) (.k (.int .i64 19)))) true none,
  .op (.P (.mv (.st 0))) false (some r16)])
 (.cond (.sl r16) (.reg [.el,
  .el,
  .op (.P (.ia 5 (.sl r1) (.k (.int .i64 0)))) true none,
  .op (.P (.fa 2 (.st 0))) true none,
  .op (.R (.ld 1 false (.st 0))) true none,
  .op (.C (.cf 242 [(.sl r0), (.st 0)])) false none])
 (.seq (.reg [.op (.P (.cmi .eql (.sl r2) (.k (.int .i64 15)))) true none,
  .op (.P (.mv (.st 0))) false (some r17)])
 (.cond (.sl r17) (.seq (.reg [.el,
  .op (.R (.sll 139 5 (.sl r1) (some (.k (.int .i64 1))) none)) true none,
  .op (.C (.cf 260 [(.st 0)])) true none,
  .el,
  .op (.P (.ext 0 (.st 0))) true none,
  .op (.P (.ext 1 (.st 1))) true none,
  .op (.P (.mv (.st 1))) false (some r19),
  .op (.P (.mv (.st 0))) false (some r6)])
 (.seq (.seq (.reg [.el,
  .op (.P (.cms .neq (.sl r6) (.k (.str 0 0)))) false (some r18)])
 (.cond (.sl r18) (.seq (.reg [.el,
  .el,
  .op (.C (.cf 242 [(.sl r0), (.sl r6)])) false none])
 (.ret))
 (.skip)))
 (.dreg [(.q, .op (.P (.mv (.sl r0))) true none),
  (.q, .op (.P (.mv (.sl r1))) true none),
  (.q, .op (.P (.ia 5 (.st 0) (.k (.int .i64 0)))) true none),
  (.q, .op (.P (.fa 1 (.st 0))) true none),
  (.r 0 0, .op (.R (.ld 1 false (.st 0))) true none),
  (.q, .op (.P (.mv (.sl r19))) true none),
  (.q, .op (.P (.ia 4 (.st 0) (.k (.int .i64 0)))) true none),
  (.r 0 0, .op (.R (.ld 4 true (.st 0))) true none),
  (.q, .op (.P (.bld [(.int .i64 0), (.int .i64 0), (.str 0 0), (.int .i64 0), (.int .i64 0), (.str 0 0), .nils, .nils] [(0, 1, (.k (.int .i64 3))), (1, 1, (.st 3)), (3, 4, (.st 0))])) true none),
  (.h [], .op (.C (.cf 259 [(.st 8), (.st 0)])) false none)])))
 (.skip)))))))))))))))))))
  []

def m251 : SlotMap := [(4, r0), (16, r1), (3, r2), (6, r3), (0, r4), (1, r5), (17, r6), (20, r7), (27, r8), (35, r9), (42, r10), (49, r11), (8, r12), (61, r13), (7, r14), (64, r15), (10, r16), (81, r17), (9, r18), (85, r19), (103, r20), (115, r21), (124, r22), (5, r23)]
def c251 : VFn :=
 VFn.mk [some r4, some r5] (.seq (.reg [.op (.F (.bx 136 (.sl r5))) false (some r2),
  .op (.F (.al 139 [(.int .i64 0), (.int .i64 0), (.str 0 0), .nils, .nilp])) false (some r0),
  .op (.P (.mv (.k (.str 0 0)))) false (some r23)])
 (.seq (.reg [.op (.P (.fa 0 (.sl r2))) true none,
  .op (.R (.ld 1 false (.st 0))) true none,
  .op (.P (.mv (.st 0))) false (some r3)])
 (.seq (.seq (.reg [.el,
  .op (.P (.nn (.sl r3))) true none,
  .op (.P (.fa 0 (.st 0))) true none,
  .op (.R (.ld 1 false (.st 0))) false (some r1)])
 (.block 0 (.seq (.reg [.op (.P (.cmi .eql (.sl r1) (.k (.int .i64 1)))) true none,
  .op (.P (.mv (.st 0))) false (some r6)])
 (.cond (.sl r6) (.seq (.reg [.op (.C (.cf 261 [])) true none,
  .op (.W (.st 5 (.sl r0) (.st 0))) false none,
  .op (.P (.mv (.k (.str 0 0)))) false (some r23)])
 (.ret))
 (.seq (.reg [.op (.P (.cmi .eql (.sl r1) (.k (.int .i64 2)))) true none,
  .op (.P (.mv (.st 0))) false (some r7)])
 (.cond (.sl r7) (.seq (.reg [.el,
  .op (.P (.nn (.sl r3))) true none,
  .op (.P (.fa 1 (.st 0))) true none,
  .op (.R (.ld 1 false (.st 0))) true none,
  .op (.C (.cf 262 [(.st 0)])) true none,
  .op (.W (.st 5 (.sl r0) (.st 0))) false none,
  .op (.P (.mv (.k (.str 0 0)))) false (some r23)])
 (.ret))
 (.seq (.reg [.op (.P (.cmi .eql (.sl r1) (.k (.int .i64 3)))) true none,
  .op (.P (.mv (.st 0))) false (some r8)])
 (.cond (.sl r8) (.seq (.reg [.el,
  .op (.P (.nn (.sl r3))) true none,
  .op (.P (.fa 1 (.st 0))) true none,
  .op (.R (.ld 1 false (.st 0))) true none,
  .op (.P (.cmi .neq (.st 0) (.k (.int .i64 0)))) true none,
  .op (.C (.cf 263 [(.st 0)])) true none,
  .op (.W (.st 5 (.sl r0) (.st 0))) false none,
  .op (.P (.mv (.k (.str 0 0)))) false (some r23)])
 (.ret))
 (.seq (.reg [.op (.P (.cmi .eql (.sl r1) (.k (.int .i64 4)))) true none,
  .op (.P (.mv (.st 0))) false (some r9)])
 (.cond (.sl r9) (.seq (.reg [.el,
  .op (.P (.nn (.sl r3))) true none,
  .op (.P (.fa 2 (.st 0))) true none,
  .op (.R (.ld 1 false (.st 0))) true none,
  .op (.P (.bld [(.int .i64 0), (.int .i64 0), (.str 0 0), .nils, .nilp] [(0, 1, (.k (.int .i64 4))), (2, 1, (.st 0))])) true none,
  .op (.W (.st 5 (.sl r0) (.st 0))) false none,
  .op (.P (.mv (.k (.str 0 0)))) false (some r23)])
 (.ret))
 (.seq (.reg [.op (.P (.cmi .eql (.sl r1) (.k (.int .i64 16)))) true none,
  .op (.P (.mv (.st 0))) false (some r10)])
 (.cond (.sl r10) (.seq (.reg [.el,
  .op (.P (.nn (.sl r4))) true none,
  .op (.P (.fa 3 (.st 0))) true none,
  .op (.R (.ld 1 false (.st 0))) true none,
  .op (.C (.cf 264 [(.st 0)])) true none,
  .op (.W (.st 5 (.sl r0) (.st 0))) false none,
  .op (.P (.mv (.k (.str 0 0)))) false (some r23)])
 (.ret))
 (.seq (.reg [.op (.P (.cmi .eql (.sl r1) (.k (.int .i64 5)))) true none,
  .op (.P (.mv (.st 0))) false (some r11)])
 (.cond (.sl r11) (.seq (.seq (.dreg [(.q, .op (.P (.fa 1 (.sl r2))) true none),
  (.r 0 0, .op (.R (.ld 1 false (.st 0))) true none),
  (.q, .op (.P (.mv (.sl r3))) true none),
  (.q, .op (.P (.nn (.st 0))) true none),
  (.q, .op (.P (.fa 2 (.st 0))) true none),
  (.r 0 0, .op (.R (.ld 1 false (.st 0))) true none),
  (.h [], .op (.C (.cf 254 [(.st 4), (.st 0)])) true none),
  (.q, .op (.P (.mv (.st 0))) true none),
  (.q, .op (.P (.ext 0 (.st 0))) true none),
  (.q, .op (.P (.ext 1 (.st 1))) true none),
  (.f, .op (.F (.al 139 [(.int .i64 0), (.int .i64 0), (.str 0 0), .nils, .nilp])) false (some r14)),
  (.h [10], .op (.W (.st 5 (.sl r14) (.st 1))) false none),
  (.q, .op (.P (.mv (.st 0))) false (some r12))])
 (.seq (.reg [.op (.P (.mv (.sl r12))) false (some r13)])
 (.cond (.sl r13) (.seq (.reg [.op (.R (.ld 5 true (.sl r14))) true none,
  .op (.W (.st 5 (.sl r0) (.st 0))) false none,
  .op (.P (.mv (.k (.str 0 0)))) false (some r23)])
 (.ret))
 (.skip))))
 (.seq (.reg [.op (.P (.bld [(.int .i64 0), (.int .i64 0), (.str 0 0), .nils, .nilp] [])) true none,
  .op (.W (.st 5 (.sl r0) (.st 0))) false none,
  .op (.P (.mv (.k (.str 4 1851878757)))) false (some r23)])
 (.ret)))
 (.seq (.reg [.op (.P (.cmi .eql (.sl r1) (.k (.int .i64 12)))) true none,
  .op (.P (.mv (.st 0))) false (some r15)])
 (.cond (.sl r15) (.seq (.dreg [(.q, .op (.P (.mv (.sl r4))) true none),
  (.q, .op (.P (.nn (.st 0))) true none),
  (.q, .op (.P (.fa 0 (.st 0))) true none),
  (.r 0 0, .op (.R (.ld 1 false (.st 0))) true none),
  (.q, .op (.P (.nn (.st 0))) true none),
  (.q, .op (.P (.fa 1 (.st 0))) true none),
  (.r 0 0, .op (.R (.ld 1 false (.st 0))) true none),
  (.q, .op (.P (.mv (.sl r3))) true none),
  (.q, .op (.P (.nn (.st 0))) true none),
  (.q, .op (.P (.fa 2 (.st 0))) true none),
  (.r 0 0, .op (.R (.ld 1 false (.st 0))) true none),
  (.r 0 0, .op (.R (.lk 1 true (.agg [(.str 0 0), (.int .i64 0)]) (.st 4) (.st 0))) true none),
  (.q, .op (.P (.mv (.st 0))) true none),
  (.q, .op (.P (.ext 0 (.st 0))) true none),
  (.q, .op (.P (.ext 1 (.st 1))) true none),
  (.f, .op (.F (.al 93 [(.str 0 0), (.int .i64 0)])) false (some r18)),
  (.h [15], .op (.W (.st 2 (.sl r18) (.st 1))) false none),
  (.q, .op (.P (.mv (.st 0))) false (some r16))])
 (.seq (.block 1 (.seq (.reg [.el,
  .op (.P (.no (.sl r16))) true none,
  .op (.P (.mv (.st 0))) false (some r17)])
 (.cond (.sl r17) (.seq (.reg [.op (.P (.bld [(.int .i64 0), (.int .i64 0), (.str 0 0), .nils, .nilp] [])) true none,
  .op (.W (.st 5 (.sl r0) (.st 0))) false none,
  .op (.P (.mv (.k (.str 4 1851878757)))) false (some r23)])
 (.ret))
 (.seq (.reg [.op (.P (.fa 1 (.sl r18))) true none,
  .op (.R (.ld 1 false (.st 0))) true none,
  .op (.P (.fa 2 (.sl r2))) true none,
  .op (.R (.ld 1 false (.st 0))) true none,
  .op (.P (.ln 1 (.st 0))) true none,
  .op (.P (.cmi .neq (.st 3) (.st 0))) true none,
  .op (.P (.mv (.st 0))) false (some r19)])
 (.cond (.sl r19) (.seq (.reg [.op (.P (.bld [(.int .i64 0), (.int .i64 0), (.str 0 0), .nils, .nilp] [])) true none,
  .op (.W (.st 5 (.sl r0) (.st 0))) false none,
  .op (.P (.mv (.k (.str 4 1954115685)))) false (some r23)])
 (.ret))
 (.skip))))))
 (.seq (.dreg [(.q, .op (.P (.mv (.sl r3))) true none),
  (.q, .op (.P (.nn (.st 0))) true none),
  (.q, .op (.P (.fa 2 (.st 0))) true none),
  (.r 0 0, .op (.R (.ld 1 false (.st 0))) true none),
  (.q, .op (.P (.fa 2 (.sl r2))) true none),
  (.r 0 0, .op (.R (.ld 1 false (.st 0))) true none),
  (.q, .op (.P (.bld [(.int .i64 0), (.int .i64 0), (.str 0 0), .nils, .nilp] [(0, 1, (.k (.int .i64 5))), (2, 1, (.st 2)), (3, 1, (.st 0))])) true none),
  (.h [], .op (.C (.cf 265 [(.st 0)])) true none),
  (.q, .op (.P (.ext 0 (.st 0))) true none),
  (.q, .op (.P (.ext 1 (.st 1))) true none),
  (.h [], .op (.W (.st 5 (.sl r0) (.st 1))) false none),
  (.q, .op (.P (.mv (.st 0))) false (some r23))])
 (.ret))))
 (.seq (.reg [.op (.P (.cmi .eql (.sl r1) (.k (.int .i64 21)))) true none,
  .op (.P (.mv (.st 0))) false (some r20)])
 (.cond (.sl r20) (.seq (.reg [.op (.P (.fa 2 (.sl r2))) true none,
  .op (.R (.ld 1 false (.st 0))) true none,
  .op (.P (.ia 5 (.st 0) (.k (.int .i64 0)))) true none,
  .op (.R (.ld 5 true (.st 0))) true none,
  .op (.P (.bld [(.bool false), (.int .i64 0), (.int .i64 0), (.str 0 0), .nils, .nilp] [(1, 5, (.st 0))])) true none,
  .op (.F (.bx 212 (.st 0))) true none,
  .op (.P (.bld [(.int .i64 0), (.int .i64 0), (.str 0 0), .nils, .nilp] [(0, 1, (.k (.int .i64 8))), (4, 1, (.st 0))])) true none,
  .op (.C (.cf 265 [(.st 0)])) true none,
  .op (.P (.ext 0 (.st 0))) true none,
  .op (.P (.ext 1 (.st 1))) true none,
  .op (.W (.st 5 (.sl r0) (.st 1))) false none,
  .op (.P (.mv (.st 0))) false (some r23)])
 (.ret))
 (.seq (.reg [.op (.P (.cmi .eql (.sl r1) (.k (.int .i64 22)))) true none,
  .op (.P (.mv (.st 0))) false (some r21)])
 (.cond (.sl r21) (.seq (.reg [.op (.P (.fa 2 (.sl r2))) true none,
  .op (.R (.ld 1 false (.st 0))) true none,
  .op (.P (.ia 5 (.st 0) (.k (.int .i64 0)))) true none,
  .op (.R (.ld 5 true (.st 0))) true none,
  .op (.C (.cf 266 [(.st 0)])) true none,
  .op (.P (.ext 0 (.st 0))) true none,
  .op (.P (.ext 1 (.st 1))) true none,
  .op (.W (.st 5 (.sl r0) (.st 1))) false none,
  .op (.P (.mv (.st 0))) false (some r23)])
 (.ret))
 (.seq (.reg [.op (.P (.cmi .eql (.sl r1) (.k (.int .i64 23)))) true none,
  .op (.P (.mv (.st 0))) false (some r22)])
 (.cond (.sl r22) (.seq (.dreg [(.h [], .op (.C (.cf 261 [])) true none),
  (.q, .op (.P (.fa 2 (.sl r2))) true none),
  (.r 0 1, .op (.R (.ld 1 false (.st 0))) true none),
  (.q, .op (.P (.ia 5 (.st 0) (.k (.int .i64 0)))) true none),
  (.r 0 1, .op (.R (.ld 5 true (.st 0))) true none),
  (.q, .op (.P (.fa 2 (.sl r2))) true none),
  (.r 0 1, .op (.R (.ld 1 false (.st 0))) true none),
  (.q, .op (.P (.ia 5 (.st 0) (.k (.int .i64 1)))) true none),
  (.r 0 1, .op (.R (.ld 5 true (.st 0))) true none),
  (.h [], .op (.C (.cf 267 [(.st 4), (.st 0)])) true none),
  (.h [], .op (.W (.st 5 (.sl r0) (.st 9))) false none),
  (.q, .op (.P (.mv (.st 0))) false (some r23))])
 (.ret))
 (.skip)))))))))))))))))))))))
 (.seq (.reg [.op (.P (.bld [(.int .i64 0), (.int .i64 0), (.str 0 0), .nils, .nilp] [])) true none,
  .op (.W (.st 5 (.sl r0) (.st 0))) false none,
  .op (.P (.mv (.k (.str 4 1954115685)))) false (some r23)])
 (.ret)))))
  [.cell (.sl r0) 5 true, .sl (.sl r23)]

def m252 : SlotMap := [(0, r0), (2, r1)]
def c252 : VFn :=
 VFn.mk [some r0] (.seq (.reg [.op (.P (.mv (.k (.bool false)))) false (some r1)])
 (.seq (.reg [.el,
  .op (.P (.nn (.sl r0))) true none,
  .op (.P (.fa 0 (.st 0))) true none,
  .op (.R (.ld 1 false (.st 0))) true none,
  .op (.P (.cmi .eql (.st 0) (.k (.int .i64 8)))) true none,
  .el,
  .op (.G (.st 0) true (.P (.mv (.sl r0)))) true none,
  .op (.G (.st 1) true (.P (.nn (.st 0)))) true none,
  .op (.G (.st 2) true (.P (.fa 2 (.st 0)))) true none,
  .op (.G (.st 3) true (.R (.ld 1 false (.st 0)))) true none,
  .op (.G (.st 4) true (.P (.cms .eql (.st 0) (.k (.str 3 6385252))))) true none,
  .op (.G (.st 5) true (.P (.mv (.st 0)))) true none,
  .op (.G (.st 0) false (.P (.mv (.sl r0)))) true none,
  .op (.G (.st 1) false (.P (.nn (.st 0)))) true none,
  .op (.G (.st 2) false (.P (.fa 2 (.st 0)))) true none,
  .op (.G (.st 3) false (.R (.ld 1 false (.st 0)))) true none,
  .op (.G (.st 4) false (.P (.cms .eql (.st 0) (.k (.str 2 28530))))) true none,
  .op (.G (.st 11) true (.P (.pick (.st 5) (.k (.bool true)) (.st 0)))) true none,
  .op (.P (.pick (.st 12) (.st 0) (.k (.bool false)))) true none,
  .el,
  .op (.G (.st 0) true (.P (.mv (.sl r0)))) true none,
  .op (.G (.st 1) true (.P (.nn (.st 0)))) true none,
  .op (.G (.st 2) true (.P (.fa 4 (.st 0)))) true none,
  .op (.G (.st 3) true (.R (.ld 1 false (.st 0)))) true none,
  .op (.G (.st 4) true (.P (.ln 1 (.st 0)))) true none,
  .op (.G (.st 5) true (.P (.cmi .eql (.st 0) (.k (.int .i64 2))))) true none,
  .op (.P (.pick (.st 6) (.st 0) (.k (.bool false)))) true none,
  .op (.P (.mv (.st 0))) false (some r1)])
 (.ret)))
  [.sl (.sl r1)]

def m253 : SlotMap := [(2, r0), (1, r1), (27, r2), (0, r3), (9, r4), (20, r5), (26, r6), (28, r7), (25, r8), (6, r9), (34, r10), (4, r11)]
def c253 : VFn :=
 VFn.mk [some r3, some r1] (.seq (.reg [.op (.F (.bx 139 (.sl r3))) false (some r0),
  .op (.P (.mv (.k (.bool false)))) false (some r11)])
 (.seq (.seq (.reg [.op (.P (.fa 0 (.sl r0))) true none,
  .op (.R (.ld 1 false (.st 0))) true none,
  .op (.P (.cmi .eql (.st 0) (.k (.int .i64 8)))) false (some r4)])
 (.cond (.sl r4) (.seq (.seq (.reg [.op (.P (.fa 4 (.sl r0))) true none,
  .op (.R (.ld 1 false (.st 0))) true none,
  .op (.P (.nn (.st 0))) true none,
  .op (.P (.fa 0 (.st 0))) true none,
  .op (.R (.ld 1 false (.st 0))) true none,
  .el,
  .op (.G (.st 0) false (.P (.mv (.sl r1)))) true none,
  .op (.G (.st 1) false (.P (.fa 4 (.sl r0)))) true none,
  .op (.G (.st 2) false (.R (.ld 1 false (.st 0)))) true none,
  .op (.G (.st 3) false (.R (.lk 3 false (.bool false) (.st 2) (.st 0)))) true none,
  .op (.P (.pick (.st 4) (.k (.bool true)) (.st 0))) false (some r5)])
 (.cond (.sl r5) (.seq (.reg [.op (.P (.mv (.k (.bool false)))) false (some r11)])
 (.ret))
 (.skip)))
 (.reg [.el,
  .op (.P (.fa 4 (.sl r0))) true none,
  .op (.R (.ld 1 false (.st 0))) true none,
  .op (.W (.mu 3 (.sl r1) (.st 0) (.k (.bool true)))) false none]))
 (.skip)))
 (.seq (.seq (.reg [.op (.R (.ld 5 true (.sl r0))) true none,
  .op (.C (.cf 120 [(.st 0)])) false (some r8),
  .op (.P (.ln 1 (.sl r8))) false (some r6),
  .op (.P (.mv (.k (.int .i64 0)))) false (some r2)])
 (.block 0 (.loop (.seq (.reg [.op (.P (.cmi .lss (.sl r2) (.sl r6))) false (some r7)])
 (.seq (.cond (.sl r7) (.skip)
 (.exit 0))
 (.seq (.block 1 (.seq (.reg [.op (.P (.ia 5 (.sl r8) (.sl r2))) true none,
  .op (.R (.ld 5 true (.st 0))) true none,
  .op (.F (.al 139 [(.int .i64 0), (.int .i64 0), (.str 0 0), .nils, .nilp])) false (some r9),
  .op (.W (.st 5 (.sl r9) (.st 0))) false none])
 (.seq (.reg [.op (.R (.ld 5 true (.sl r9))) true none,
  .el,
  .op (.C (.cf 253 [(.st 0), (.sl r1)])) true none,
  .op (.P (.no (.st 0))) false (some r10)])
 (.cond (.sl r10) (.seq (.reg [.op (.P (.mv (.k (.bool false)))) false (some r11)])
 (.ret))
 (.skip)))))
 (.reg [.op (.P (.ar .add (.sl r2) (.k (.int .i64 1)))) true none,
  .op (.P (.mv (.st 0))) false (some r2)])))))))
 (.seq (.reg [.op (.P (.mv (.k (.bool true)))) false (some r11)])
 (.ret)))))
  [.sl (.sl r11)]

def m254 : SlotMap := [(0, r0), (4, r1), (7, r2), (1, r3), (17, r4), (5, r5)]
def c254 : VFn :=
 VFn.mk [some r0, some r3] (.seq (.reg [.op (.F (.al 139 [(.int .i64 0), (.int .i64 0), (.str 0 0), .nils, .nilp])) false (some r1),
  .op (.P (.mv (.k (.bool false)))) false (some r5)])
 (.seq (.block 0 (.loop (.seq (.seq (.reg [.el,
  .op (.R (.cpq true (.sl r0) (.k .nilp))) false (some r2)])
 (.cond (.sl r2) (.skip)
 (.exit 0)))
 (.seq (.block 1 (.seq (.reg [.el,
  .op (.P (.nn (.sl r0))) true none,
  .op (.P (.fa 0 (.st 0))) true none,
  .op (.R (.ld 1 false (.st 0))) true none,
  .el,
  .op (.P (.cms .eql (.st 0) (.sl r3))) false (some r4)])
 (.cond (.sl r4) (.seq (.reg [.el,
  .op (.P (.nn (.sl r0))) true none,
  .op (.P (.fa 1 (.st 0))) true none,
  .op (.R (.ld 5 true (.st 0))) true none,
  .op (.W (.st 5 (.sl r1) (.st 0))) false none,
  .op (.P (.mv (.k (.bool true)))) false (some r5)])
 (.ret))
 (.skip))))
 (.reg [.op (.P (.mv (.sl r0))) true none,
  .op (.P (.nn (.st 0))) true none,
  .op (.P (.fa 6 (.st 0))) true none,
  .op (.R (.ld 1 false (.st 0))) true none,
  .op (.P (.mv (.st 0))) false (some r0)])))))
 (.seq (.reg [.op (.P (.bld [(.int .i64 0), (.int .i64 0), (.str 0 0), .nils, .nilp] [])) true none,
  .op (.W (.st 5 (.sl r1) (.st 0))) false none,
  .op (.P (.mv (.k (.bool false)))) false (some r5)])
 (.ret))))
  [.cell (.sl r1) 5 true, .sl (.sl r5)]

def m255 : SlotMap := [(4, r0), (13, r1), (1, r2), (15, r3), (0, r4), (52, r5), (62, r6), (12, r7), (22, r8), (24, r9), (26, r10), (30, r11), (9, r12), (8, r13), (7, r14), (48, r15), (51, r16), (53, r17), (50, r18), (6, r19), (11, r20), (59, r21), (63, r22), (71, r23), (84, r24), (88, r25), (5, r26)]
def c255 : VFn :=
 VFn.mk [some r4, some r2] (.seq (.reg [.op (.F (.al 139 [(.int .i64 0), (.int .i64 0), (.str 0 0), .nils, .nilp])) false (some r0),
  .op (.P (.mv (.k (.str 0 0)))) false (some r26)])
 (.seq (.reg [.op (.P (.mv (.k (.int .i64 2)))) false (some r19),
  .op (.P (.mv (.k (.int .i64 2)))) false (some r14)])
 (.seq (.seq (.reg [.op (.P (.mv (.sl r4))) false (some r1)])
 (.block 0 (.seq (.seq (.reg [.op (.P (.cms .eql (.sl r1) (.k (.str 1 43)))) true none,
  .op (.P (.mv (.st 0))) false (some r3)])
 (.cond (.sl r3) (.skip)
 (.seq (.reg [.op (.P (.cms .eql (.sl r1) (.k (.str 1 45)))) true none,
  .op (.P (.mv (.st 0))) false (some r3)])
 (.cond (.sl r3) (.skip)
 (.seq (.reg [.op (.P (.cms .eql (.sl r1) (.k (.str 1 42)))) true none,
  .op (.P (.mv (.st 0))) false (some r3)])
 (.cond (.sl r3) (.skip)
 (.seq (.reg [.op (.P (.cms .eql (.sl r1) (.k (.str 1 47)))) true none,
  .op (.P (.mv (.st 0))) false (some r3)])
 (.cond (.sl r3) (.skip)
 (.seq (.reg [.op (.P (.cms .eql (.sl r1) (.k (.str 1 37)))) true none,
  .op (.P (.mv (.st 0))) false (some r3)])
 (.cond (.sl r3) (.skip)
 (.reg [.op (.P (.cms .eql (.sl r1) (.k (.str 1 60)))) true none,
  .op (.P (.mv (.st 0))) false (some r3)])))))))))))
 (.cond (.sl r3) (.skip)
 (.seq (.reg [.op (.P (.cms .eql (.sl r1) (.k (.str 1 94)))) true none,
  .op (.P (.mv (.st 0))) false (some r8)])
 (.cond (.sl r8) (.reg [.op (.P (.mv (.k (.int .i64 4)))) false (some r19)])
 (.seq (.reg [.op (.P (.cms .eql (.sl r1) (.k (.str 3 7237492)))) true none,
  .op (.P (.mv (.st 0))) false (some r9)])
 (.cond (.sl r9) (.reg [.op (.P (.mv (.k (.int .i64 3)))) false (some r19),
  .op (.P (.mv (.k (.int .i64 1)))) false (some r14)])
 (.seq (.reg [.op (.P (.cms .eql (.sl r1) (.k (.str 1 61)))) true none,
  .op (.P (.mv (.st 0))) false (some r10)])
 (.cond (.sl r10) (.seq (.seq (.reg [.el,
  .op (.P (.ln 1 (.sl r2))) true none,
  .op (.P (.cmi .neq (.st 0) (.k (.int .i64 2)))) false (some r11)])
 (.cond (.sl r11) (.seq (.reg [.op (.P (.bld [(.int .i64 0), (.int .i64 0), (.str 0 0), .nils, .nilp] [])) true none,
  .op (.W (.st 5 (.sl r0) (.st 0))) false none,
  .op (.P (.mv (.k (.str 4 1954115685)))) false (some r26)])
 (.ret))
 (.skip)))
 (.seq (.dreg [(.q, .op (.P (.mv (.sl r2))) true none),
  (.q, .op (.P (.ia 5 (.st 0) (.k (.int .i64 0)))) true none),
  (.r 0 0, .op (.R (.ld 5 true (.st 0))) true none),
  (.q, .op (.P (.mv (.sl r2))) true none),
  (.q, .op (.P (.ia 5 (.st 0) (.k (.int .i64 1)))) true none),
  (.r 0 0, .op (.R (.ld 5 true (.st 0))) true none),
  (.h [], .op (.C (.cf 268 [(.st 3), (.st 0)])) true none),
  (.q, .op (.P (.mv (.st 0))) true none),
  (.q, .op (.P (.ext 0 (.st 0))) true none),
  (.q, .op (.P (.ext 1 (.st 1))) true none),
  (.q, .op (.P (.mv (.st 1))) false (some r13)),
  (.q, .op (.P (.mv (.st 0))) false (some r12))])
 (.seq (.reg [.el,
  .op (.C (.cf 263 [(.sl r13)])) true none,
  .el,
  .op (.W (.st 5 (.sl r0) (.st 0))) false none,
  .op (.P (.mv (.sl r12))) false (some r26)])
 (.ret))))
 (.seq (.reg [.op (.P (.bld [(.int .i64 0), (.int .i64 0), (.str 0 0), .nils, .nilp] [])) true none,
  .op (.W (.st 5 (.sl r0) (.st 0))) false none,
  .op (.P (.mv (.k (.str 4 1954115685)))) false (some r26)])
 (.ret))))))))))))
 (.seq (.seq (.reg [.el,
  .op (.P (.ln 1 (.sl r2))) true none,
  .el,
  .op (.P (.cmi .neq (.st 0) (.sl r14))) false (some r15)])
 (.cond (.sl r15) (.seq (.reg [.op (.P (.bld [(.int .i64 0), (.int .i64 0), (.str 0 0), .nils, .nilp] [])) true none,
  .op (.W (.st 5 (.sl r0) (.st 0))) false none,
  .op (.P (.mv (.k (.str 4 1954115685)))) false (some r26)])
 (.ret))
 (.skip)))
 (.seq (.seq (.reg [.op (.P (.mv (.sl r2))) false (some r18),
  .op (.P (.ln 1 (.sl r18))) false (some r16),
  .op (.P (.mv (.k (.int .i64 0)))) false (some r5)])
 (.block 1 (.loop (.seq (.reg [.op (.P (.cmi .lss (.sl r5) (.sl r16))) false (some r17)])
 (.seq (.cond (.sl r17) (.skip)
 (.exit 1))
 (.seq (.block 2 (.seq (.reg [.op (.P (.ia 5 (.sl r18) (.sl r5))) true none,
  .op (.R (.ld 5 true (.st 0))) true none,
  .op (.F (.al 139 [(.int .i64 0), (.int .i64 0), (.str 0 0), .nils, .nilp])) false (some r20),
  .op (.W (.st 5 (.sl r20) (.st 0))) false none])
 (.seq (.reg [.op (.P (.fa 0 (.sl r20))) true none,
  .op (.R (.ld 1 false (.st 0))) true none,
  .el,
  .op (.P (.cmi .neq (.st 0) (.sl r19))) false (some r21)])
 (.cond (.sl r21) (.seq (.reg [.op (.P (.bld [(.int .i64 0), (.int .i64 0), (.str 0 0), .nils, .nilp] [])) true none,
  .op (.W (.st 5 (.sl r0) (.st 0))) false none,
  .op (.P (.mv (.k (.str 4 1954115685)))) false (some r26)])
 (.ret))
 (.skip)))))
 (.reg [.op (.P (.ar .add (.sl r5) (.k (.int .i64 1)))) true none,
  .op (.P (.mv (.st 0))) false (some r5)])))))))
 (.seq (.seq (.reg [.op (.P (.mv (.sl r4))) false (some r6)])
 (.block 3 (.seq (.reg [.op (.P (.cms .eql (.sl r6) (.k (.str 3 7237492)))) true none,
  .op (.P (.mv (.st 0))) false (some r22)])
 (.cond (.sl r22) (.seq (.reg [.el,
  .op (.P (.ia 5 (.sl r2) (.k (.int .i64 0)))) true none,
  .op (.P (.fa 1 (.st 0))) true none,
  .op (.R (.ld 1 false (.st 0))) true none,
  .op (.P (.cmi .eql (.st 0) (.k (.int .i64 0)))) true none,
  .op (.C (.cf 263 [(.st 0)])) true none,
  .op (.W (.st 5 (.sl r0) (.st 0))) false none,
  .op (.P (.mv (.k (.str 0 0)))) false (some r26)])
 (.ret))
 (.seq (.reg [.op (.P (.cms .eql (.sl r6) (.k (.str 1 94)))) true none,
  .op (.P (.mv (.st 0))) false (some r23)])
 (.cond (.sl r23) (.seq (.dreg [(.q, .op (.P (.mv (.sl r2))) true none),
  (.q, .op (.P (.ia 5 (.st 0) (.k (.int .i64 0)))) true none),
  (.q, .op (.P (.fa 2 (.st 0))) true none),
  (.r 0 0, .op (.R (.ld 1 false (.st 0))) true none),
  (.q, .op (.P (.mv (.sl r2))) true none),
  (.q, .op (.P (.ia 5 (.st 0) (.k (.int .i64 1)))) true none),
  (.q, .op (.P (.fa 2 (.st 0))) true none),
  (.r 0 0, .op (.R (.ld 1 false (.st 0))) true none),
  (.q, .op (.P (.cat (.st 4) (.st 0))) true none),
  (.q, .op (.P (.mv (.st 0))) false (some r7))])
 (.seq (.seq (.reg [.el,
  .op (.P (.ln 0 (.sl r7))) true none,
  .op (.P (.cmi .gtr (.st 0) (.k (.int .i64 64)))) false (some r24)])
 (.cond (.sl r24) (.seq (.reg [.op (.P (.bld [(.int .i64 0), (.int .i64 0), (.str 0 0), .nils, .nilp] [])) true none,
  .op (.W (.st 5 (.sl r0) (.st 0))) false none,
  .op (.P (.mv (.k (.str 5 465491355493)))) false (some r26)])
 (.ret))
 (.skip)))
 (.seq (.reg [.el,
  .op (.P (.bld [(.int .i64 0), (.int .i64 0), (.str 0 0), .nils, .nilp] [(0, 1, (.k (.int .i64 4))), (2, 1, (.sl r7))])) true none,
  .op (.W (.st 5 (.sl r0) (.st 0))) false none,
  .op (.P (.mv (.k (.str 0 0)))) false (some r26)])
 (.ret))))
 (.seq (.reg [.op (.P (.cms .eql (.sl r6) (.k (.str 1 60)))) true none,
  .op (.P (.mv (.st 0))) false (some r25)])
 (.cond (.sl r25) (.seq (.dreg [(.q, .op (.P (.mv (.sl r2))) true none),
  (.q, .op (.P (.ia 5 (.st 0) (.k (.int .i64 0)))) true none),
  (.q, .op (.P (.fa 1 (.st 0))) true none),
  (.r 0 0, .op (.R (.ld 1 false (.st 0))) true none),
  (.q, .op (.P (.mv (.sl r2))) true none),
  (.q, .op (.P (.ia 5 (.st 0) (.k (.int .i64 1)))) true none),
  (.q, .op (.P (.fa 1 (.st 0))) true none),
  (.r 0 0, .op (.R (.ld 1 false (.st 0))) true none),
  (.q, .op (.P (.cmi .lss (.st 4) (.st 0))) true none),
  (.h [], .op (.C (.cf 263 [(.st 0)])) true none),
  (.h [], .op (.W (.st 5 (.sl r0) (.st 0))) false none),
  (.q, .op (.P (.mv (.k (.str 0 0)))) false (some r26))])
 (.ret))
 (.skip)))))))))
 (.seq (.dreg [(.q, .op (.P (.mv (.sl r4))) true none),
  (.q, .op (.P (.mv (.sl r2))) true none),
  (.q, .op (.P (.ia 5 (.st 0) (.k (.int .i64 0)))) true none),
  (.q, .op (.P (.fa 1 (.st 0))) true none),
  (.r 0 0, .op (.R (.ld 1 false (.st 0))) true none),
  (.q, .op (.P (.mv (.sl r2))) true none),
  (.q, .op (.P (.ia 5 (.st 0) (.k (.int .i64 1)))) true none),
  (.q, .op (.P (.fa 1 (.st 0))) true none),
  (.r 0 0, .op (.R (.ld 1 false (.st 0))) true none),
  (.h [], .op (.C (.cf 269 [(.st 8), (.st 4), (.st 0)])) true none),
  (.q, .op (.P (.ext 0 (.st 0))) true none),
  (.q, .op (.P (.ext 1 (.st 1))) true none),
  (.h [], .op (.W (.st 5 (.sl r0) (.st 1))) false none),
  (.q, .op (.P (.mv (.st 0))) false (some r26))])
 (.ret))))))))
  [.cell (.sl r0) 5 true, .sl (.sl r26)]

def m256 : SlotMap := [(6, r0), (0, r1), (2, r2), (1, r3), (94, r4), (12, r5), (16, r6), (9, r7), (31, r8), (8, r9), (11, r10), (51, r11), (62, r12), (14, r13), (79, r14), (13, r15), (84, r16), (93, r17), (95, r18), (92, r19), (10, r20), (107, r21), (18, r22), (17, r23), (7, r24)]
def c256 : VFn :=
 VFn.mk [some r1, some r3, some r2] (.seq (.reg [.op (.F (.al 112 [.nils, .nilp])) false (some r0),
  .op (.P (.mv (.k (.bool false)))) false (some r24)])
 (.seq (.seq (.reg [.el,
  .op (.P (.nn (.sl r1))) true none,
  .op (.P (.fa 0 (.st 0))) true none,
  .op (.R (.ld 1 false (.st 0))) true none,
  .op (.P (.nn (.st 0))) true none,
  .op (.P (.fa 2 (.st 0))) true none,
  .op (.R (.ld 1 false (.st 0))) true none,
  .el,
  .op (.R (.lk 1 true (.agg [.nils, .nilp]) (.st 0) (.sl r3))) true none,
  .el,
  .op (.P (.ext 0 (.st 0))) true none,
  .op (.P (.ext 1 (.st 1))) true none,
  .op (.F (.al 112 [.nils, .nilp])) false (some r9),
  .op (.W (.st 2 (.sl r9) (.st 1))) false none,
  .op (.P (.mv (.st 0))) false (some r7)])
 (.seq (.reg [.op (.P (.mv (.sl r7))) false (some r8)])
 (.cond (.sl r8) (.seq (.reg [.op (.R (.ld 2 true (.sl r9))) true none,
  .op (.W (.st 2 (.sl r0) (.st 0))) false none,
  .op (.P (.mv (.k (.bool true)))) false (some r24)])
 (.ret))
 (.skip))))
 (.seq (.reg [.el,
  .op (.P (.nn (.sl r1))) true none,
  .op (.P (.fa 0 (.st 0))) true none,
  .op (.R (.ld 1 false (.st 0))) true none,
  .op (.P (.nn (.st 0))) true none,
  .op (.P (.fa 3 (.st 0))) true none,
  .op (.R (.ld 1 false (.st 0))) true none,
  .el,
  .op (.R (.lk 1 true (.str 0 0) (.st 0) (.sl r3))) true none,
  .el,
  .op (.P (.ext 0 (.st 0))) true none,
  .op (.P (.ext 1 (.st 1))) true none,
  .op (.P (.mv (.st 1))) false (some r20),
  .op (.P (.mv (.st 0))) false (some r10)])
 (.seq (.seq (.reg [.el,
  .op (.P (.no (.sl r10))) true none,
  .el,
  .op (.G (.st 0) false (.P (.mv (.sl r2)))) true none,
  .op (.G (.st 1) false (.P (.ln 1 (.st 0)))) true none,
  .op (.G (.st 2) false (.P (.cmi .eql (.st 0) (.k (.int .i64 0))))) true none,
  .op (.P (.pick (.st 3) (.k (.bool true)) (.st 0))) false (some r11)])
 (.cond (.sl r11) (.seq (.reg [.op (.P (.bld [.nils, .nilp] [])) true none,
  .op (.W (.st 2 (.sl r0) (.st 0))) false none,
  .op (.P (.mv (.k (.bool false)))) false (some r24)])
 (.ret))
 (.skip)))
 (.seq (.reg [.el,
  .op (.P (.ia 5 (.sl r2) (.k (.int .i64 0)))) true none,
  .op (.P (.fa 0 (.st 0))) true none,
  .op (.R (.ld 1 false (.st 0))) true none,
  .op (.C (.cf 270 [(.st 0)])) true none,
  .op (.P (.mv (.st 0))) false (some r5)])
 (.seq (.seq (.reg [.el,
  .op (.P (.ia 5 (.sl r2) (.k (.int .i64 0)))) true none,
  .op (.P (.fa 0 (.st 0))) true none,
  .op (.R (.ld 1 false (.st 0))) true none,
  .op (.P (.cmi .eql (.st 0) (.k (.int .i64 5)))) false (some r12)])
 (.cond (.sl r12) (.seq (.dreg [(.q, .op (.P (.mv (.sl r1))) true none),
  (.q, .op (.P (.nn (.st 0))) true none),
  (.q, .op (.P (.fa 0 (.st 0))) true none),
  (.r 0 0, .op (.R (.ld 1 false (.st 0))) true none),
  (.q, .op (.P (.nn (.st 0))) true none),
  (.q, .op (.P (.fa 1 (.st 0))) true none),
  (.r 0 0, .op (.R (.ld 1 false (.st 0))) true none),
  (.q, .op (.P (.mv (.sl r2))) true none),
  (.q, .op (.P (.ia 5 (.st 0) (.k (.int .i64 0)))) true none),
  (.q, .op (.P (.fa 2 (.st 0))) true none),
  (.r 0 0, .op (.R (.ld 1 false (.st 0))) true none),
  (.r 0 0, .op (.R (.lk 1 true (.agg [(.str 0 0), (.int .i64 0)]) (.st 4) (.st 0))) true none),
  (.q, .op (.P (.mv (.st 0))) true none),
  (.q, .op (.P (.ext 0 (.st 0))) true none),
  (.q, .op (.P (.ext 1 (.st 1))) true none),
  (.f, .op (.F (.al 93 [(.str 0 0), (.int .i64 0)])) false (some r15)),
  (.h [15], .op (.W (.st 2 (.sl r15) (.st 1))) false none),
  (.q, .op (.P (.mv (.st 0))) false (some r13))])
 (.seq (.seq (.reg [.el,
  .op (.P (.no (.sl r13))) false (some r14)])
 (.cond (.sl r14) (.seq (.reg [.op (.P (.bld [.nils, .nilp] [])) true none,
  .op (.W (.st 2 (.sl r0) (.st 0))) false none,
  .op (.P (.mv (.k (.bool false)))) false (some r24)])
 (.ret))
 (.skip)))
 (.reg [.op (.P (.fa 0 (.sl r15))) true none,
  .op (.R (.ld 1 false (.st 0))) true none,
  .op (.P (.mv (.st 0))) false (some r5)])))
 (.seq (.reg [.el,
  .op (.P (.cms .eql (.sl r5) (.k (.str 0 0)))) false (some r16)])
 (.cond (.sl r16) (.seq (.reg [.op (.P (.bld [.nils, .nilp] [])) true none,
  .op (.W (.st 2 (.sl r0) (.st 0))) false none,
  .op (.P (.mv (.k (.bool false)))) false (some r24)])
 (.ret))
 (.skip)))))
 (.seq (.seq (.reg [.el,
  .op (.P (.nn (.sl r1))) true none,
  .op (.P (.fa 0 (.st 0))) true none,
  .op (.R (.ld 1 false (.st 0))) true none,
  .op (.P (.nn (.st 0))) true none,
  .op (.P (.fa 4 (.st 0))) true none,
  .op (.R (.ld 1 false (.st 0))) false (some r19),
  .op (.P (.ln 1 (.sl r19))) false (some r17),
  .op (.P (.mv (.k (.int .i64 0)))) false (some r4)])
 (.block 0 (.loop (.seq (.reg [.op (.P (.cmi .lss (.sl r4) (.sl r17))) false (some r18)])
 (.seq (.cond (.sl r18) (.skip)
 (.exit 0))
 (.seq (.block 1 (.seq (.reg [.op (.P (.ia 3 (.sl r19) (.sl r4))) true none,
  .op (.R (.ld 3 true (.st 0))) true none,
  .op (.F (.al 108 [(.str 0 0), (.str 0 0), .nilm])) false (some r6),
  .op (.W (.st 3 (.sl r6) (.st 0))) false none])
 (.seq (.reg [.op (.P (.fa 0 (.sl r6))) true none,
  .op (.R (.ld 1 false (.st 0))) true none,
  .el,
  .op (.P (.cms .eql (.st 0) (.sl r20))) true none,
  .el,
  .op (.G (.st 0) true (.P (.fa 1 (.sl r6)))) true none,
  .op (.G (.st 1) true (.R (.ld 1 false (.st 0)))) true none,
  .op (.G (.st 2) true (.P (.mv (.sl r5)))) true none,
  .op (.G (.st 3) true (.P (.cms .eql (.st 1) (.st 0)))) true none,
  .op (.P (.pick (.st 4) (.st 0) (.k (.bool false)))) false (some r21)])
 (.cond (.sl r21) (.seq (.reg [.op (.P (.fa 2 (.sl r6))) true none,
  .op (.R (.ld 1 false (.st 0))) true none,
  .el,
  .op (.R (.lk 1 true (.agg [.nils, .nilp]) (.st 0) (.sl r3))) true none,
  .el,
  .op (.P (.ext 0 (.st 0))) true none,
  .op (.P (.ext 1 (.st 1))) true none,
  .op (.F (.al 112 [.nils, .nilp])) false (some r23),
  .op (.W (.st 2 (.sl r23) (.st 1))) false none,
  .op (.P (.mv (.st 0))) false (some r22)])
 (.seq (.reg [.op (.R (.ld 2 true (.sl r23))) true none,
  .el,
  .op (.W (.st 2 (.sl r0) (.st 0))) false none,
  .op (.P (.mv (.sl r22))) false (some r24)])
 (.ret)))
 (.skip)))))
 (.reg [.op (.P (.ar .add (.sl r4) (.k (.int .i64 1)))) true none,
  .op (.P (.mv (.st 0))) false (some r4)])))))))
 (.seq (.reg [.op (.P (.bld [.nils, .nilp] [])) true none,
  .op (.W (.st 2 (.sl r0) (.st 0))) false none,
  .op (.P (.mv (.k (.bool false)))) false (some r24)])
 (.ret)))))))))
  [.cell (.sl r0) 2 true, .sl (.sl r24)]

def m257 : SlotMap := [(14, r0), (3, r1), (5, r2), (6, r3), (1, r4), (0, r5), (13, r6), (15, r7), (12, r8), (7, r9), (23, r10), (8, r11), (4, r12)]
def c257 : VFn :=
 VFn.mk [some r5, some r4] (.seq (.reg [.op (.F (.bx 139 (.sl r4))) false (some r1),
  .op (.P (.mv (.k .nilp))) false (some r12)])
 (.seq (.reg [.op (.P (.mv (.k .nilp))) false (some r2)])
 (.seq (.reg [.op (.P (.mv (.k (.int .i64 0)))) false (some r3)])
 (.seq (.seq (.reg [.el,
  .op (.P (.nn (.sl r5))) true none,
  .op (.P (.fa 8 (.st 0))) true none,
  .op (.R (.ld 1 false (.st 0))) false (some r8),
  .op (.P (.ln 1 (.sl r8))) false (some r6),
  .op (.P (.mv (.k (.int .i64 0)))) false (some r0)])
 (.block 0 (.loop (.seq (.reg [.op (.P (.cmi .lss (.sl r0) (.sl r6))) false (some r7)])
 (.seq (.cond (.sl r7) (.skip)
 (.exit 0))
 (.seq (.block 1 (.seq (.reg [.el,
  .op (.P (.ia 1 (.sl r8) (.sl r0))) true none,
  .op (.R (.ld 1 false (.st 0))) true none,
  .op (.P (.mv (.sl r0))) false (some r9),
  .op (.P (.mv (.st 0))) false (some r11)])
 (.seq (.reg [.op (.P (.fa 2 (.sl r1))) true none,
  .op (.R (.ld 1 false (.st 0))) true none,
  .el,
  .op (.P (.idxs (.st 0) (.sl r9))) true none,
  .op (.P (.cmi .eql (.st 0) (.k (.int .u8 49)))) false (some r10)])
 (.cond (.sl r10) (.seq (.reg [.el,
  .op (.P (.fa 3 (.sl r1))) true none,
  .op (.R (.ld 1 false (.st 0))) true none,
  .el,
  .op (.P (.ia 5 (.st 0) (.sl r3))) true none,
  .op (.R (.ld 5 true (.st 0))) true none,
  .op (.P (.mv (.sl r2))) true none,
  .op (.P (.bld [(.str 0 0), (.int .i64 0), (.int .i64 0), (.str 0 0), .nils, .nilp, .nilp] [(0, 1, (.sl r11)), (1, 5, (.st 1)), (6, 1, (.st 0))])) true none,
  .op (.F (.bx 218 (.st 0))) true none,
  .op (.P (.mv (.st 0))) false (some r2)])
 (.reg [.op (.P (.mv (.sl r3))) true none,
  .op (.P (.ar .add (.st 0) (.k (.int .i64 1)))) true none,
  .op (.P (.mv (.st 0))) false (some r3)]))
 (.skip)))))
 (.reg [.op (.P (.ar .add (.sl r0) (.k (.int .i64 1)))) true none,
  .op (.P (.mv (.st 0))) false (some r0)])))))))
 (.seq (.reg [.el,
  .op (.P (.mv (.sl r2))) false (some r12)])
 (.ret))))))
  [.sl (.sl r12)]

def m258 : SlotMap := [(0, r0), (3, r1), (7, r2), (1, r3), (5, r4), (24, r5), (4, r6), (29, r7), (46, r8), (6, r9)]
def c258 : VFn :=
 VFn.mk [some r0, some r3] (.seq (.reg [.op (.F (.bx 136 (.sl r3))) false (some r1)])
 (.seq (.dreg [(.q, .op (.P (.mv (.sl r0))) true none),
  (.q, .op (.P (.nn (.st 0))) true none),
  (.q, .op (.P (.fa 0 (.st 0))) true none),
  (.r 0 0, .op (.R (.ld 1 false (.st 0))) true none),
  (.q, .op (.P (.nn (.st 0))) true none),
  (.q, .op (.P (.fa 5 (.st 0))) true none),
  (.r 0 0, .op (.R (.ld 1 false (.st 0))) true none),
  (.q, .op (.P (.fa 0 (.sl r1))) true none),
  (.r 0 0, .op (.R (.ld 1 false (.st 0))) true none),
  (.q, .op (.P (.nn (.st 0))) true none),
  (.q, .op (.P (.fa 2 (.st 0))) true none),
  (.r 0 0, .op (.R (.ld 1 false (.st 0))) true none),
  (.r 0 0, .op (.R (.lk 1 true (.agg [.nils, .nilp]) (.st 5) (.st 0))) true none),
  (.q, .op (.P (.mv (.st 0))) true none),
  (.q, .op (.P (.ext 0 (.st 0))) true none),
  (.q, .op (.P (.ext 1 (.st 1))) true none),
  (.f, .op (.F (.al 117 [.nils, .nilp])) false (some r6)),
  (.h [16], .op (.W (.st 2 (.sl r6) (.st 1))) false none),
  (.q, .op (.P (.mv (.st 0))) false (some r4))])
 (.seq (.block 0 (.seq (.reg [.el,
  .op (.P (.no (.sl r4))) true none,
  .op (.P (.mv (.st 0))) false (some r5)])
 (.cond (.sl r5) (.seq (.reg [.el,
  .op (.C (.cf 242 [(.sl r0), (.k (.str 4 1851878757))])) false none])
 (.ret))
 (.seq (.reg [.op (.P (.fa 0 (.sl r6))) true none,
  .op (.R (.ld 1 false (.st 0))) true none,
  .op (.P (.ln 1 (.st 0))) true none,
  .op (.P (.fa 2 (.sl r1))) true none,
  .op (.R (.ld 1 false (.st 0))) true none,
  .op (.P (.ln 1 (.st 0))) true none,
  .op (.P (.cmi .neq (.st 3) (.st 0))) true none,
  .op (.P (.mv (.st 0))) false (some r7)])
 (.cond (.sl r7) (.seq (.reg [.el,
  .op (.C (.cf 242 [(.sl r0), (.k (.str 4 1954115685))])) false none])
 (.ret))
 (.skip))))))
 (.seq (.reg [.op (.P (.fa 2 (.sl r1))) true none,
  .op (.R (.ld 1 false (.st 0))) true none,
  .op (.C (.cf 260 [(.st 0)])) true none,
  .el,
  .op (.P (.ext 0 (.st 0))) true none,
  .op (.P (.ext 1 (.st 1))) true none,
  .op (.P (.mv (.st 1))) false (some r9),
  .op (.P (.mv (.st 0))) false (some r2)])
 (.seq (.seq (.reg [.el,
  .op (.P (.cms .neq (.sl r2) (.k (.str 0 0)))) false (some r8)])
 (.cond (.sl r8) (.seq (.reg [.el,
  .el,
  .op (.C (.cf 242 [(.sl r0), (.sl r2)])) false none])
 (.ret))
 (.skip)))
 (.seq (.reg [.el,
  .op (.P (.fa 0 (.sl r1))) true none,
  .op (.R (.ld 1 false (.st 0))) true none,
  .op (.P (.nn (.st 0))) true none,
  .op (.P (.fa 2 (.st 0))) true none,
  .op (.R (.ld 1 false (.st 0))) true none,
  .el,
  .op (.P (.bld [(.int .i64 0), (.int .i64 0), (.str 0 0), (.int .i64 0), (.int .i64 0), (.str 0 0), .nils, .nils] [(0, 1, (.k (.int .i64 4))), (2, 1, (.st 0)), (7, 1, (.sl r9))])) true none,
  .op (.C (.cf 259 [(.sl r0), (.st 0)])) false none])
 (.reg [.el,
  .op (.P (.nn (.sl r0))) true none,
  .op (.P (.fa 5 (.st 0))) true none,
  .op (.W (.st 1 (.st 0) (.k (.int .i64 2)))) false none])))))))
  []

def m259 : SlotMap := [(0, r0), (1, r1), (3, r2)]
def c259 : VFn :=
 VFn.mk [some r0, some r1] (.seq (.reg [.op (.F (.bx 41 (.sl r1))) false (some r2)])
 (.seq (.reg [.el,
  .op (.P (.nn (.sl r0))) true none,
  .op (.P (.fa 30 (.st 0))) true none,
  .op (.W (.st 1 (.st 0) (.sl r2))) false none])
 (.reg [.el,
  .op (.C (.cf 261 [])) true none,
  .op (.C (.cf 230 [(.sl r0), (.st 0)])) false none])))
  []

def m260 : SlotMap := [(0, r0), (21, r1), (2, r2), (5, r3), (12, r4), (15, r5), (4, r6), (23, r7), (6, r8), (3, r9)]
def c260 : VFn :=
 VFn.mk [some r0] (.seq (.reg [.op (.P (.mv (.k .nils))) false (some r2),
  .op (.P (.mv (.k (.str 0 0)))) false (some r9)])
 (.seq (.reg [.el,
  .op (.C (.cf 240 [(.sl r0)])) true none,
  .el,
  .op (.P (.ext 0 (.st 0))) true none,
  .op (.P (.ext 1 (.st 1))) true none,
  .op (.P (.mv (.st 1))) false (some r6),
  .op (.P (.mv (.st 0))) false (some r3)])
 (.seq (.block 0 (.seq (.reg [.el,
  .op (.P (.no (.sl r3))) true none,
  .op (.P (.mv (.st 0))) false (some r4)])
 (.cond (.sl r4) (.seq (.reg [.op (.P (.mv (.k .nils))) false (some r2),
  .op (.P (.mv (.k (.str 4 1735356005)))) false (some r9)])
 (.ret))
 (.seq (.reg [.el,
  .op (.C (.cf 39 [(.sl r0)])) true none,
  .op (.P (.mv (.st 0))) false (some r5)])
 (.cond (.sl r5) (.seq (.reg [.op (.P (.mv (.k .nils))) false (some r2),
  .op (.P (.mv (.k (.str 5 465491355493)))) false (some r9)])
 (.ret))
 (.skip))))))
 (.seq (.reg [.el,
  .op (.C (.cf 235 [(.sl r0)])) true none,
  .op (.P (.mv (.st 0))) false (some r2)])
 (.seq (.seq (.reg [.el,
  .op (.W (.rgm (.sl r6))) false (some r1)])
 (.block 1 (.loop (.seq (.reg [.op (.W (.nxm (.sl r1))) true none,
  .op (.P (.ext 0 (.st 0))) false (some r7)])
 (.seq (.cond (.sl r7) (.skip)
 (.exit 1))
 (.block 2 (.seq (.reg [.op (.R (.en (.sl r1))) true none,
  .op (.P (.ext 0 (.st 0))) true none,
  .op (.P (.mv (.st 0))) false (some r8)])
 (.reg [.el,
  .el,
  .op (.P (.bld [(.int .i64 0), (.int .i64 0), (.str 0 0), .nils, .nilp] [])) true none,
  .op (.P (.nn (.sl r8))) true none,
  .op (.P (.fa 0 (.st 0))) true none,
  .op (.W (.st 1 (.st 0) (.k (.bool true)))) false none,
  .op (.P (.nn (.sl r8))) true none,
  .op (.P (.fa 1 (.st 0))) true none,
  .op (.W (.st 5 (.st 0) (.st 4))) false none]))))))))
 (.seq (.reg [.op (.P (.mv (.sl r2))) true none,
  .op (.P (.mv (.st 0))) false (some r2),
  .op (.P (.mv (.k (.str 0 0)))) false (some r9)])
 (.ret)))))))
  [.sl (.sl r2), .sl (.sl r9)]

def m261 : SlotMap := [(0, r0)]
def c261 : VFn :=
 VFn.mk [] (.seq (.reg [.op (.F (.al 139 [(.int .i64 0), (.int .i64 0), (.str 0 0), .nils, .nilp])) false (some r0)])
 (.seq (.reg [.op (.P (.bld [(.int .i64 0), (.int .i64 0), (.str 0 0), .nils, .nilp] [(0, 1, (.k (.int .i64 1)))])) true none,
  .op (.W (.st 5 (.sl r0) (.st 0))) false none])
 (.ret)))
  [.cell (.sl r0) 5 true]

def m262 : SlotMap := [(2, r0), (0, r1)]
def c262 : VFn :=
 VFn.mk [some r1] (.seq (.reg [.op (.F (.al 139 [(.int .i64 0), (.int .i64 0), (.str 0 0), .nils, .nilp])) false (some r0)])
 (.seq (.reg [.el,
  .op (.P (.bld [(.int .i64 0), (.int .i64 0), (.str 0 0), .nils, .nilp] [(0, 1, (.k (.int .i64 2))), (1, 1, (.sl r1))])) true none,
  .op (.W (.st 5 (.sl r0) (.st 0))) false none])
 (.ret)))
  [.cell (.sl r0) 5 true]

def m263 : SlotMap := [(2, r0), (0, r1), (3, r2)]
def c263 : VFn :=
 VFn.mk [some r1] (.seq (.reg [.op (.F (.al 139 [(.int .i64 0), (.int .i64 0), (.str 0 0), .nils, .nilp])) false (some r0)])
 (.seq (.seq (.reg [.op (.P (.mv (.sl r1))) false (some r2)])
 (.cond (.sl r2) (.seq (.reg [.op (.P (.bld [(.int .i64 0), (.int .i64 0), (.str 0 0), .nils, .nilp] [(0, 1, (.k (.int .i64 3))), (1, 1, (.k (.int .i64 1)))])) true none,
  .op (.W (.st 5 (.sl r0) (.st 0))) false none])
 (.ret))
 (.skip)))
 (.seq (.reg [.op (.P (.bld [(.int .i64 0), (.int .i64 0), (.str 0 0), .nils, .nilp] [(0, 1, (.k (.int .i64 3)))])) true none,
  .op (.W (.st 5 (.sl r0) (.st 0))) false none])
 (.ret))))
  [.cell (.sl r0) 5 true]

def m264 : SlotMap := [(2, r0), (0, r1)]
def c264 : VFn :=
 VFn.mk [some r1] (.seq (.reg [.op (.F (.al 139 [(.int .i64 0), (.int .i64 0), (.str 0 0), .nils, .nilp])) false (some r0)])
 (.seq (.reg [.el,
  .op (.P (.bld [(.int .i64 0), (.int .i64 0), (.str 0 0), .nils, .nilp] [(0, 1, (.k (.int .i64 6))), (1, 1, (.sl r1))])) true none,
  .op (.W (.st 5 (.sl r0) (.st 0))) false none])
 (.ret)))
  [.cell (.sl r0) 5 true]

def m265 : SlotMap := [(2, r0), (1, r1), (0, r2), (5, r3), (3, r4)]
def c265 : VFn :=
 VFn.mk [some r2] (.seq (.reg [.op (.F (.bx 139 (.sl r2))) false (some r1),
  .op (.F (.al 139 [(.int .i64 0), (.int .i64 0), (.str 0 0), .nils, .nilp])) false (some r0),
  .op (.P (.mv (.k (.str 0 0)))) false (some r4)])
 (.seq (.seq (.reg [.op (.R (.ld 5 true (.sl r1))) true none,
  .op (.C (.cf 53 [(.st 0)])) false (some r3)])
 (.cond (.sl r3) (.seq (.reg [.op (.P (.bld [(.int .i64 0), (.int .i64 0), (.str 0 0), .nils, .nilp] [])) true none,
  .op (.W (.st 5 (.sl r0) (.st 0))) false none,
  .op (.P (.mv (.k (.str 5 465491355493)))) false (some r4)])
 (.ret))
 (.skip)))
 (.seq (.reg [.op (.R (.ld 5 true (.sl r1))) true none,
  .op (.W (.st 5 (.sl r0) (.st 0))) false none,
  .op (.P (.mv (.k (.str 0 0)))) false (some r4)])
 (.ret))))
  [.cell (.sl r0) 5 true, .sl (.sl r4)]

def m266 : SlotMap := [(2, r0), (1, r1), (0, r2), (4, r3), (9, r4), (3, r5)]
def c266 : VFn :=
 VFn.mk [some r2] (.seq (.reg [.op (.F (.bx 139 (.sl r2))) false (some r1),
  .op (.F (.al 139 [(.int .i64 0), (.int .i64 0), (.str 0 0), .nils, .nilp])) false (some r0),
  .op (.P (.mv (.k (.str 0 0)))) false (some r5)])
 (.seq (.block 0 (.seq (.reg [.op (.P (.fa 0 (.sl r1))) true none,
  .op (.R (.ld 1 false (.st 0))) true none,
  .op (.P (.cmi .neq (.st 0) (.k (.int .i64 8)))) true none,
  .op (.P (.mv (.st 0))) false (some r3)])
 (.cond (.sl r3) (.seq (.reg [.op (.P (.bld [(.int .i64 0), (.int .i64 0), (.str 0 0), .nils, .nilp] [])) true none,
  .op (.W (.st 5 (.sl r0) (.st 0))) false none,
  .op (.P (.mv (.k (.str 4 1954115685)))) false (some r5)])
 (.ret))
 (.seq (.reg [.op (.P (.fa 4 (.sl r1))) true none,
  .op (.R (.ld 1 false (.st 0))) true none,
  .op (.P (.nn (.st 0))) true none,
  .op (.P (.fa 0 (.st 0))) true none,
  .op (.R (.ld 1 false (.st 0))) true none,
  .op (.P (.mv (.st 0))) false (some r4)])
 (.cond (.sl r4) (.seq (.reg [.op (.P (.bld [(.int .i64 0), (.int .i64 0), (.str 0 0), .nils, .nilp] [])) true none,
  .op (.W (.st 5 (.sl r0) (.st 0))) false none,
  .op (.P (.mv (.k (.str 4 1735356005)))) false (some r5)])
 (.ret))
 (.skip))))))
 (.seq (.reg [.op (.P (.fa 4 (.sl r1))) true none,
  .op (.R (.ld 1 false (.st 0))) true none,
  .op (.P (.nn (.st 0))) true none,
  .op (.P (.fa 1 (.st 0))) true none,
  .op (.R (.ld 5 true (.st 0))) true none,
  .op (.W (.st 5 (.sl r0) (.st 0))) false none,
  .op (.P (.mv (.k (.str 0 0)))) false (some r5)])
 (.ret))))
  [.cell (.sl r0) 5 true, .sl (.sl r5)]

def m267 : SlotMap := [(2, r0), (3, r1), (1, r2), (0, r3), (5, r4), (9, r5), (15, r6), (4, r7)]
def c267 : VFn :=
 VFn.mk [some r3, some r2] (.seq (.reg [.op (.F (.bx 139 (.sl r3))) false (some r0),
  .op (.F (.bx 139 (.sl r2))) false (some r1),
  .op (.P (.mv (.k (.str 0 0)))) false (some r7)])
 (.seq (.block 0 (.seq (.reg [.op (.P (.fa 0 (.sl r0))) true none,
  .op (.R (.ld 1 false (.st 0))) true none,
  .op (.P (.cmi .neq (.st 0) (.k (.int .i64 8)))) true none,
  .op (.P (.mv (.st 0))) false (some r4)])
 (.cond (.sl r4) (.seq (.reg [.op (.P (.mv (.k (.str 4 1954115685)))) false (some r7)])
 (.ret))
 (.seq (.reg [.op (.P (.fa 4 (.sl r0))) true none,
  .op (.R (.ld 1 false (.st 0))) true none,
  .op (.P (.nn (.st 0))) true none,
  .op (.P (.fa 0 (.st 0))) true none,
  .op (.R (.ld 1 false (.st 0))) true none,
  .op (.P (.mv (.st 0))) false (some r5)])
 (.cond (.sl r5) (.seq (.reg [.op (.P (.mv (.k (.str 4 1735356005)))) false (some r7)])
 (.ret))
 (.seq (.reg [.op (.R (.ld 5 true (.sl r1))) true none,
  .op (.P (.bld [(.bool false), (.int .i64 0), (.int .i64 0), (.str 0 0), .nils, .nilp] [(1, 5, (.st 0))])) true none,
  .op (.F (.bx 212 (.st 0))) true none,
  .op (.P (.bld [(.int .i64 0), (.int .i64 0), (.str 0 0), .nils, .nilp] [(0, 1, (.k (.int .i64 8))), (4, 1, (.st 0))])) true none,
  .op (.C (.cf 53 [(.st 0)])) true none,
  .el,
  .op (.G (.st 0) false (.R (.ld 5 true (.sl r1)))) true none,
  .op (.G (.st 1) false (.P (.fa 4 (.sl r0)))) true none,
  .op (.G (.st 2) false (.R (.ld 1 false (.st 0)))) true none,
  .op (.G (.st 3) false (.C (.cf 271 [(.st 2), (.st 0)]))) true none,
  .op (.P (.pick (.st 4) (.k (.bool true)) (.st 0))) true none,
  .op (.P (.mv (.st 0))) false (some r6)])
 (.cond (.sl r6) (.seq (.reg [.op (.P (.mv (.k (.str 5 465491355493)))) false (some r7)])
 (.ret))
 (.skip))))))))
 (.seq (.reg [.op (.P (.fa 4 (.sl r0))) true none,
  .op (.R (.ld 1 false (.st 0))) true none,
  .op (.R (.ld 5 true (.sl r1))) true none,
  .op (.P (.nn (.st 1))) true none,
  .op (.P (.fa 1 (.st 0))) true none,
  .op (.W (.st 5 (.st 0) (.st 2))) false none])
 (.seq (.reg [.op (.P (.mv (.k (.str 0 0)))) false (some r7)])
 (.ret)))))
  [.sl (.sl r7)]

def m268 : SlotMap := [(2, r0), (3, r1), (15, r2), (59, r3), (1, r4), (0, r5), (14, r6), (16, r7), (13, r8), (7, r9), (26, r10), (28, r11), (34, r12), (58, r13), (60, r14), (8, r15), (9, r16), (77, r17), (10, r18), (4, r19), (5, r20)]
def c268 : VFn :=
 VFn.mk [some r5, some r4] (.seq (.reg [.op (.F (.bx 139 (.sl r5))) false (some r0),
  .op (.F (.bx 139 (.sl r4))) false (some r1),
  .op (.P (.mv (.k (.bool false)))) false (some r19),
  .op (.P (.mv (.k (.str 0 0)))) false (some r20)])
 (.seq (.seq (.reg [.op (.R (.ld 5 true (.sl r0))) true none,
  .op (.R (.ld 5 true (.sl r1))) true none,
  .op (.F (.bsl 139 5 2 [(.int .i64 0), (.int .i64 0), (.str 0 0), .nils, .nilp, (.int .i64 0), (.int .i64 0), (.str 0 0), .nils, .nilp] [(0, 5, (.st 1)), (5, 5, (.st 0))])) false (some r8),
  .op (.P (.ln 1 (.sl r8))) false (some r6),
  .op (.P (.mv (.k (.int .i64 0)))) false (some r2)])
 (.block 0 (.loop (.seq (.reg [.op (.P (.cmi .lss (.sl r2) (.sl r6))) false (some r7)])
 (.seq (.cond (.sl r7) (.skip)
 (.exit 0))
 (.seq (.block 1 (.seq (.reg [.op (.P (.ia 5 (.sl r8) (.sl r2))) true none,
  .op (.R (.ld 5 true (.st 0))) true none,
  .op (.F (.al 139 [(.int .i64 0), (.int .i64 0), (.str 0 0), .nils, .nilp])) false (some r9),
  .op (.W (.st 5 (.sl r9) (.st 0))) false none])
 (.seq (.reg [.op (.P (.fa 0 (.sl r9))) true none,
  .op (.R (.ld 1 false (.st 0))) true none,
  .op (.P (.cmi .eql (.st 0) (.k (.int .i64 7)))) true none,
  .el,
  .op (.G (.st 0) false (.P (.fa 0 (.sl r9)))) true none,
  .op (.G (.st 1) false (.R (.ld 1 false (.st 0)))) true none,
  .op (.G (.st 2) false (.P (.cmi .eql (.st 0) (.k (.int .i64 8))))) true none,
  .op (.P (.pick (.st 3) (.k (.bool true)) (.st 0))) false (some r10)])
 (.cond (.sl r10) (.seq (.reg [.op (.P (.mv (.k (.bool false)))) false (some r19),
  .op (.P (.mv (.k (.str 4 1954115685)))) false (some r20)])
 (.ret))
 (.skip)))))
 (.reg [.op (.P (.ar .add (.sl r2) (.k (.int .i64 1)))) true none,
  .op (.P (.mv (.st 0))) false (some r2)])))))))
 (.seq (.block 2 (.seq (.reg [.op (.P (.fa 0 (.sl r0))) true none,
  .op (.R (.ld 1 false (.st 0))) true none,
  .op (.P (.fa 0 (.sl r1))) true none,
  .op (.R (.ld 1 false (.st 0))) true none,
  .op (.P (.cmi .neq (.st 2) (.st 0))) true none,
  .op (.P (.mv (.st 0))) false (some r11)])
 (.cond (.sl r11) (.seq (.reg [.op (.P (.mv (.k (.bool false)))) false (some r19),
  .op (.P (.mv (.k (.str 4 1954115685)))) false (some r20)])
 (.ret))
 (.seq (.reg [.op (.P (.fa 1 (.sl r0))) true none,
  .op (.R (.ld 1 false (.st 0))) true none,
  .op (.P (.fa 1 (.sl r1))) true none,
  .op (.R (.ld 1 false (.st 0))) true none,
  .op (.P (.cmi .neq (.st 2) (.st 0))) true none,
  .el,
  .op (.G (.st 0) false (.P (.fa 2 (.sl r0)))) true none,
  .op (.G (.st 1) false (.R (.ld 1 false (.st 0)))) true none,
  .op (.G (.st 2) false (.P (.fa 2 (.sl r1)))) true none,
  .op (.G (.st 3) false (.R (.ld 1 false (.st 0)))) true none,
  .op (.G (.st 4) false (.P (.cms .neq (.st 2) (.st 0)))) true none,
  .op (.P (.pick (.st 5) (.k (.bool true)) (.st 0))) true none,
  .el,
  .op (.G (.st 0) false (.P (.fa 3 (.sl r0)))) true none,
  .op (.G (.st 1) false (.R (.ld 1 false (.st 0)))) true none,
  .op (.G (.st 2) false (.P (.ln 1 (.st 0)))) true none,
  .op (.G (.st 3) false (.P (.fa 3 (.sl r1)))) true none,
  .op (.G (.st 4) false (.R (.ld 1 false (.st 0)))) true none,
  .op (.G (.st 5) false (.P (.ln 1 (.st 0)))) true none,
  .op (.G (.st 6) false (.P (.cmi .neq (.st 3) (.st 0)))) true none,
  .op (.P (.pick (.st 7) (.k (.bool true)) (.st 0))) true none,
  .op (.P (.mv (.st 0))) false (some r12)])
 (.cond (.sl r12) (.seq (.reg [.op (.P (.mv (.k (.bool false)))) false (some r19),
  .op (.P (.mv (.k (.str 0 0)))) false (some r20)])
 (.ret))
 (.skip))))))
 (.seq (.seq (.reg [.op (.P (.fa 3 (.sl r0))) true none,
  .op (.R (.ld 1 false (.st 0))) true none,
  .op (.P (.ln 1 (.st 0))) false (some r13),
  .op (.P (.mv (.k (.int .i64 0)))) false (some r3)])
 (.block 3 (.loop (.seq (.reg [.op (.P (.cmi .lss (.sl r3) (.sl r13))) false (some r14)])
 (.seq (.cond (.sl r14) (.skip)
 (.exit 3))
 (.seq (.block 4 (.seq (.reg [.el,
  .op (.P (.mv (.sl r3))) false (some r15)])
 (.seq (.dreg [(.q, .op (.P (.fa 3 (.sl r0))) true none),
  (.r 0 0, .op (.R (.ld 1 false (.st 0))) true none),
  (.q, .op (.P (.mv (.sl r15))) true none),
  (.q, .op (.P (.ia 5 (.st 1) (.st 0))) true none),
  (.r 0 0, .op (.R (.ld 5 true (.st 0))) true none),
  (.q, .op (.P (.fa 3 (.sl r1))) true none),
  (.r 0 0, .op (.R (.ld 1 false (.st 0))) true none),
  (.q, .op (.P (.mv (.sl r15))) true none),
  (.q, .op (.P (.ia 5 (.st 1) (.st 0))) true none),
  (.r 0 0, .op (.R (.ld 5 true (.st 0))) true none),
  (.h [], .op (.C (.cf 268 [(.st 5), (.st 0)])) true none),
  (.q, .op (.P (.mv (.st 0))) true none),
  (.q, .op (.P (.ext 0 (.st 0))) true none),
  (.q, .op (.P (.ext 1 (.st 1))) true none),
  (.q, .op (.P (.mv (.st 1))) false (some r16)),
  (.q, .op (.P (.mv (.st 0))) false (some r18))])
 (.seq (.reg [.el,
  .op (.P (.no (.sl r16))) false (some r17)])
 (.cond (.sl r17) (.seq (.reg [.el,
  .op (.P (.mv (.k (.bool false)))) false (some r19),
  .op (.P (.mv (.sl r18))) false (some r20)])
 (.ret))
 (.skip))))))
 (.reg [.op (.P (.ar .add (.sl r3) (.k (.int .i64 1)))) true none,
  .op (.P (.mv (.st 0))) false (some r3)])))))))
 (.seq (.reg [.op (.P (.mv (.k (.bool true)))) false (some r19),
  .op (.P (.mv (.k (.str 0 0)))) false (some r20)])
 (.ret))))))
  [.sl (.sl r19), .sl (.sl r20)]

def m269 : SlotMap := [(6, r0), (2, r1), (1, r2), (8, r3), (0, r4), (9, r5), (15, r6), (21, r7), (28, r8), (31, r9), (7, r10)]
def c269 : VFn :=
 VFn.mk [some r4, some r2, some r1] (.seq (.reg [.op (.F (.al 139 [(.int .i64 0), (.int .i64 0), (.str 0 0), .nils, .nilp])) false (some r0),
  .op (.P (.mv (.k (.str 0 0)))) false (some r10)])
 (.seq (.seq (.reg [.op (.P (.mv (.sl r4))) false (some r3)])
 (.block 0 (.seq (.reg [.op (.P (.cms .eql (.sl r3) (.k (.str 1 43)))) true none,
  .op (.P (.mv (.st 0))) false (some r5)])
 (.cond (.sl r5) (.seq (.reg [.el,
  .el,
  .op (.P (.ar .add (.sl r2) (.sl r1))) true none,
  .op (.C (.cf 262 [(.st 0)])) true none,
  .op (.W (.st 5 (.sl r0) (.st 0))) false none,
  .op (.P (.mv (.k (.str 0 0)))) false (some r10)])
 (.ret))
 (.seq (.reg [.op (.P (.cms .eql (.sl r3) (.k (.str 1 45)))) true none,
  .op (.P (.mv (.st 0))) false (some r6)])
 (.cond (.sl r6) (.seq (.reg [.el,
  .el,
  .op (.P (.ar .sub (.sl r2) (.sl r1))) true none,
  .op (.C (.cf 262 [(.st 0)])) true none,
  .op (.W (.st 5 (.sl r0) (.st 0))) false none,
  .op (.P (.mv (.k (.str 0 0)))) false (some r10)])
 (.ret))
 (.seq (.reg [.op (.P (.cms .eql (.sl r3) (.k (.str 1 42)))) true none,
  .op (.P (.mv (.st 0))) false (some r7)])
 (.cond (.sl r7) (.seq (.reg [.el,
  .el,
  .op (.P (.ar .mul (.sl r2) (.sl r1))) true none,
  .op (.C (.cf 262 [(.st 0)])) true none,
  .op (.W (.st 5 (.sl r0) (.st 0))) false none,
  .op (.P (.mv (.k (.str 0 0)))) false (some r10)])
 (.ret))
 (.skip)))))))))
 (.seq (.seq (.reg [.el,
  .op (.P (.cmi .eql (.sl r1) (.k (.int .i64 0)))) false (some r8)])
 (.cond (.sl r8) (.seq (.reg [.op (.P (.bld [(.int .i64 0), (.int .i64 0), (.str 0 0), .nils, .nilp] [])) true none,
  .op (.W (.st 5 (.sl r0) (.st 0))) false none,
  .op (.P (.mv (.k (.str 4 2053468783)))) false (some r10)])
 (.ret))
 (.skip)))
 (.seq (.seq (.reg [.el,
  .op (.P (.cms .eql (.sl r4) (.k (.str 1 47)))) false (some r9)])
 (.cond (.sl r9) (.seq (.reg [.el,
  .el,
  .op (.P (.ar .quo (.sl r2) (.sl r1))) true none,
  .op (.C (.cf 262 [(.st 0)])) true none,
  .op (.W (.st 5 (.sl r0) (.st 0))) false none,
  .op (.P (.mv (.k (.str 0 0)))) false (some r10)])
 (.ret))
 (.skip)))
 (.seq (.reg [.el,
  .el,
  .op (.P (.ar .rem (.sl r2) (.sl r1))) true none,
  .op (.C (.cf 262 [(.st 0)])) true none,
  .op (.W (.st 5 (.sl r0) (.st 0))) false none,
  .op (.P (.mv (.k (.str 0 0)))) false (some r10)])
 (.ret))))))
  [.cell (.sl r0) 5 true, .sl (.sl r10)]

def m270 : SlotMap := [(3, r0), (0, r1), (4, r2), (6, r3), (8, r4), (10, r5), (2, r6)]
def c270 : VFn :=
 VFn.mk [some r1] (.seq (.reg [.op (.P (.mv (.k (.str 0 0)))) false (some r6)])
 (.seq (.seq (.reg [.op (.P (.mv (.sl r1))) false (some r0)])
 (.block 0 (.seq (.reg [.op (.P (.cmi .eql (.sl r0) (.k (.int .i64 1)))) true none,
  .op (.P (.mv (.st 0))) false (some r2)])
 (.cond (.sl r2) (.seq (.reg [.op (.P (.mv (.k (.str 4 1970170228)))) false (some r6)])
 (.ret))
 (.seq (.reg [.op (.P (.cmi .eql (.sl r0) (.k (.int .i64 2)))) true none,
  .op (.P (.mv (.st 0))) false (some r3)])
 (.cond (.sl r3) (.seq (.reg [.op (.P (.mv (.k (.str 3 6909556)))) false (some r6)])
 (.ret))
 (.seq (.reg [.op (.P (.cmi .eql (.sl r0) (.k (.int .i64 3)))) true none,
  .op (.P (.mv (.st 0))) false (some r4)])
 (.cond (.sl r4) (.seq (.reg [.op (.P (.mv (.k (.str 4 1651470188)))) false (some r6)])
 (.ret))
 (.seq (.reg [.op (.P (.cmi .eql (.sl r0) (.k (.int .i64 4)))) true none,
  .op (.P (.mv (.st 0))) false (some r5)])
 (.cond (.sl r5) (.seq (.reg [.op (.P (.mv (.k (.str 4 1952807028)))) false (some r6)])
 (.ret))
 (.skip)))))))))))
 (.seq (.reg [.op (.P (.mv (.k (.str 0 0)))) false (some r6)])
 (.ret))))
  [.sl (.sl r6)]

def m271 : SlotMap := [(14, r0), (1, r1), (2, r2), (0, r3), (10, r4), (13, r5), (15, r6), (12, r7), (6, r8), (20, r9), (4, r10)]
def c271 : VFn :=
 VFn.mk [some r3, some r1] (.seq (.reg [.op (.F (.bx 139 (.sl r3))) false (some r2),
  .op (.P (.mv (.k (.bool false)))) false (some r10)])
 (.seq (.seq (.reg [.op (.P (.fa 4 (.sl r2))) true none,
  .op (.R (.ld 1 false (.st 0))) true none,
  .el,
  .op (.R (.cpq false (.st 0) (.sl r1))) false (some r4)])
 (.cond (.sl r4) (.seq (.reg [.op (.P (.mv (.k (.bool true)))) false (some r10)])
 (.ret))
 (.skip)))
 (.seq (.seq (.reg [.op (.R (.ld 5 true (.sl r2))) true none,
  .op (.C (.cf 120 [(.st 0)])) false (some r7),
  .op (.P (.ln 1 (.sl r7))) false (some r5),
  .op (.P (.mv (.k (.int .i64 0)))) false (some r0)])
 (.block 0 (.loop (.seq (.reg [.op (.P (.cmi .lss (.sl r0) (.sl r5))) false (some r6)])
 (.seq (.cond (.sl r6) (.skip)
 (.exit 0))
 (.seq (.block 1 (.seq (.reg [.op (.P (.ia 5 (.sl r7) (.sl r0))) true none,
  .op (.R (.ld 5 true (.st 0))) true none,
  .op (.F (.al 139 [(.int .i64 0), (.int .i64 0), (.str 0 0), .nils, .nilp])) false (some r8),
  .op (.W (.st 5 (.sl r8) (.st 0))) false none])
 (.seq (.reg [.op (.R (.ld 5 true (.sl r8))) true none,
  .el,
  .op (.C (.cf 271 [(.st 0), (.sl r1)])) false (some r9)])
 (.cond (.sl r9) (.seq (.reg [.op (.P (.mv (.k (.bool true)))) false (some r10)])
 (.ret))
 (.skip)))))
 (.reg [.op (.P (.ar .add (.sl r0) (.k (.int .i64 1)))) true none,
  .op (.P (.mv (.st 0))) false (some r0)])))))))
 (.seq (.reg [.op (.P (.mv (.k (.bool false)))) false (some r10)])
 (.ret)))))
  [.sl (.sl r10)]

def m23 : SlotMap := [(4, r0), (2, r1), (3, r2), (0, r3), (14, r4), (5, r5), (6, r6), (29, r7)]
def c23 : VFn :=
 VFn.mk [some r3] (.seq (.reg [.op (.F (.al 30 [(.str 0 0), (.int .i64 0), .nils, .nils, .nils, .nils, .nils, .nils])) false (some r1),
  .op (.F (.al 3 [(.int .i64 0)])) false (some r2),
  .op (.F (.al 59 [(.int .i64 0)])) false (some r0)])
 (.seq (.reg [.el,
  .op (.C (.cf 41 [(.sl r3)])) true none,
  .el,
  .op (.P (.ext 0 (.st 0))) true none,
  .op (.P (.ext 1 (.st 1))) true none,
  .op (.P (.ext 2 (.st 2))) true none,
  .op (.P (.mv (.st 2))) false (some r5),
  .op (.W (.st 1 (.sl r2) (.st 1))) false none,
  .op (.W (.st 1 (.sl r0) (.st 0))) false none])
 (.seq (.seq (.reg [.op (.R (.ld 1 false (.sl r0))) true none,
  .op (.P (.cmi .neq (.st 0) (.k (.int .i64 0)))) false (some r4)])
 (.cond (.sl r4) (.seq (.dreg [(.q, .op (.P (.bld [(.str 0 0), (.int .i64 0), .nils, .nils, .nils, .nils, .nils, .nils] [])) true none),
  (.r 0 1, .op (.R (.ld 1 false (.sl r2))) true none),
  (.r 0 2, .op (.R (.ld 1 false (.sl r0))) true none),
  (.h [], .op (.W (.st 8 (.sl r1) (.st 2))) false none),
  (.h [], .op (.W (.st 1 (.sl r2) (.st 1))) false none),
  (.h [], .op (.W (.st 1 (.sl r0) (.st 0))) false none)])
 (.ret))
 (.skip)))
 (.seq (.fail)
 (.seq (.reg [.el,
  .el,
  .op (.P (.ln 0 (.sl r3))) true none,
  .op (.P (.bld [.nils, (.int .i64 0), (.int .i64 0)] [(0, 1, (.sl r5)), (2, 1, (.st 0))])) true none,
  .op (.F (.bx 152 (.st 0))) true none,
  .op (.P (.mv (.st 0))) false (some r6)])
 (.seq (.reg [.el,
  .op (.C (.cf 43 [(.sl r6)])) true none,
  .op (.W (.st 8 (.sl r1) (.st 0))) false none])
 (.seq (.seq (.reg [.op (.R (.ld 8 true (.sl r1))) true none,
  .op (.C (.cf 44 [(.st 0)])) true none,
  .op (.W (.st 1 (.sl r0) (.st 0))) false none])
 (.seq (.reg [.op (.R (.ld 1 false (.sl r0))) true none,
  .op (.P (.cmi .neq (.st 0) (.k (.int .i64 0)))) false (some r7)])
 (.cond (.sl r7) (.seq (.dreg [(.q, .op (.P (.bld [(.str 0 0), (.int .i64 0), .nils, .nils, .nils, .nils, .nils, .nils] [])) true none),
  (.r 0 2, .op (.R (.ld 1 false (.sl r0))) true none),
  (.h [], .op (.W (.st 8 (.sl r1) (.st 1))) false none),
  (.h [], .op (.W (.st 1 (.sl r2) (.k (.int .i64 0)))) false none),
  (.h [], .op (.W (.st 1 (.sl r0) (.st 0))) false none)])
 (.ret))
 (.skip))))
 (.seq (.reg [.op (.R (.ld 8 true (.sl r1))) true none,
  .op (.W (.st 8 (.sl r1) (.st 0))) false none,
  .op (.W (.st 1 (.sl r2) (.k (.int .i64 0)))) false none,
  .op (.W (.st 1 (.sl r0) (.k (.int .i64 0)))) false none])
 (.ret)))))))))
  [.cell (.sl r1) 8 true, .cell (.sl r2) 1 false, .cell (.sl r0) 1 false]

def m42 : SlotMap := [(3, r0), (5, r1), (12, r2), (2, r3), (1, r4), (0, r5), (4, r6), (17, r7)]
def ftab : NT := (.n 129 (.n 66 (.n 34 (.n 18 (.n 10 (.n 6 (.n 4 (.l 3 c3) (.n 5 (.l 4 c4) (.l 5 c5))) (.n 8 (.n 7 (.l 6 c6) (.l 7 c7)) (.n 9 (.l 8 c8) (.l 9 c9)))) (.n 14 (.n 12 (.n 11 (.l 10 c10) (.l 11 c11)) (.n 13 (.l 12 c12) (.l 13 c13))) (.n 16 (.n 15 (.l 14 c14) (.l 15 c15)) (.n 17 (.l 16 c16) (.l 17 c17))))) (.n 26 (.n 21 (.n 19 (.l 18 c18) (.n 20 (.l 19 c19) (.l 20 c20))) (.n 24 (.n 22 (.l 21 c21) (.l 22 c22)) (.n 25 (.l 24 c24) (.l 25 c25)))) (.n 30 (.n 28 (.n 27 (.l 26 c26) (.l 27 c27)) (.n 29 (.l 28 c28) (.l 29 c29))) (.n 32 (.n 31 (.l 30 c30) (.l 31 c31)) (.n 33 (.l 32 c32) (.l 33 c33)))))) (.n 50 (.n 41 (.n 37 (.n 35 (.l 34 c34) (.n 36 (.l 35 c35) (.l 36 c36))) (.n 39 (.n 38 (.l 37 c37) (.l 38 c38)) (.n 40 (.l 39 c39) (.l 40 c40)))) (.n 46 (.n 44 (.n 43 (.l 41 c41) (.l 43 c43)) (.n 45 (.l 44 c44) (.l 45 c45))) (.n 48 (.n 47 (.l 46 c46) (.l 47 c47)) (.n 49 (.l 48 c48) (.l 49 c49))))) (.n 58 (.n 54 (.n 52 (.n 51 (.l 50 c50) (.l 51 c51)) (.n 53 (.l 52 c52) (.l 53 c53))) (.n 56 (.n 55 (.l 54 c54) (.l 55 c55)) (.n 57 (.l 56 c56) (.l 57 c57)))) (.n 62 (.n 60 (.n 59 (.l 58 c58) (.l 59 c59)) (.n 61 (.l 60 c60) (.l 61 c61))) (.n 64 (.n 63 (.l 62 c62) (.l 63 c63)) (.n 65 (.l 64 c64) (.l 65 c65))))))) (.n 98 (.n 82 (.n 73 (.n 69 (.n 67 (.l 66 c66) (.n 68 (.l 67 c67) (.l 68 c68))) (.n 71 (.n 70 (.l 69 c69) (.l 70 c70)) (.n 72 (.l 71 c71) (.l 72 c72)))) (.n 77 (.n 75 (.n 74 (.l 73 c73) (.l 74 c74)) (.n 76 (.l 75 c75) (.l 76 c76))) (.n 80 (.n 78 (.l 77 c77) (.l 78 c78)) (.n 81 (.l 80 c80) (.l 81 c81))))) (.n 89 (.n 85 (.n 83 (.l 82 c82) (.n 84 (.l 83 c83) (.l 84 c84))) (.n 87 (.n 86 (.l 85 c85) (.l 86 c86)) (.n 88 (.l 87 c87) (.l 88 c88)))) (.n 94 (.n 92 (.n 91 (.l 89 c89) (.l 91 c91)) (.n 93 (.l 92 c92) (.l 93 c93))) (.n 96 (.n 95 (.l 94 c94) (.l 95 c95)) (.n 97 (.l 96 c96) (.l 97 c97)))))) (.n 113 (.n 105 (.n 101 (.n 99 (.l 98 c98) (.n 100 (.l 99 c99) (.l 100 c100))) (.n 103 (.n 102 (.l 101 c101) (.l 102 c102)) (.n 104 (.l 103 c103) (.l 104 c104)))) (.n 109 (.n 107 (.n 106 (.l 105 c105) (.l 106 c106)) (.n 108 (.l 107 c107) (.l 108 c108))) (.n 111 (.n 110 (.l 109 c109) (.l 110 c110)) (.n 112 (.l 111 c111) (.l 112 c112))))) (.n 121 (.n 117 (.n 115 (.n 114 (.l 113 c113) (.l 114 c114)) (.n 116 (.l 115 c115) (.l 116 c116))) (.n 119 (.n 118 (.l 117 c117) (.l 118 c118)) (.n 120 (.l 119 c119) (.l 120 c120)))) (.n 125 (.n 123 (.n 122 (.l 121 c121) (.l 122 c122)) (.n 124 (.l 123 c123) (.l 124 c124))) (.n 127 (.n 126 (.l 125 c125) (.l 126 c126)) (.n 128 (.l 127 c127) (.l 128 c128)))))))) (.n 193 (.n 160 (.n 144 (.n 136 (.n 132 (.n 130 (.l 129 c129) (.n 131 (.l 130 c130) (.l 131 c131))) (.n 134 (.n 133 (.l 132 c132) (.l 133 c133)) (.n 135 (.l 134 c134) (.l 135 c135)))) (.n 140 (.n 138 (.n 137 (.l 136 c136) (.l 137 c137)) (.n 139 (.l 138 c138) (.l 139 c139))) (.n 142 (.n 141 (.l 140 c140) (.l 141 c141)) (.n 143 (.l 142 c142) (.l 143 c143))))) (.n 152 (.n 148 (.n 145 (.l 144 c144) (.n 147 (.l 145 c145) (.l 147 c147))) (.n 150 (.n 149 (.l 148 c148) (.l 149 c149)) (.n 151 (.l 150 c150) (.l 151 c151)))) (.n 156 (.n 154 (.n 153 (.l 152 c152) (.l 153 c153)) (.n 155 (.l 154 c154) (.l 155 c155))) (.n 158 (.n 157 (.l 156 c156) (.l 157 c157)) (.n 159 (.l 158 c158) (.l 159 c159)))))) (.n 176 (.n 167 (.n 163 (.n 161 (.l 160 c160) (.n 162 (.l 161 c161) (.l 162 c162))) (.n 165 (.n 164 (.l 163 c163) (.l 164 c164)) (.n 166 (.l 165 c165) (.l 166 c166)))) (.n 171 (.n 169 (.n 168 (.l 167 c167) (.l 168 c168)) (.n 170 (.l 169 c169) (.l 170 c170))) (.n 174 (.n 172 (.l 171 c171) (.l 172 c172)) (.n 175 (.l 174 c174) (.l 175 c175))))) (.n 185 (.n 181 (.n 178 (.n 177 (.l 176 c176) (.l 177 c177)) (.n 180 (.l 178 c178) (.l 180 c180))) (.n 183 (.n 182 (.l 181 c181) (.l 182 c182)) (.n 184 (.l 183 c183) (.l 184 c184)))) (.n 189 (.n 187 (.n 186 (.l 185 c185) (.l 186 c186)) (.n 188 (.l 187 c187) (.l 188 c188))) (.n 191 (.n 190 (.l 189 c189) (.l 190 c190)) (.n 192 (.l 191 c191) (.l 192 c192))))))) (.n 241 (.n 225 (.n 202 (.n 197 (.n 195 (.l 193 c193) (.n 196 (.l 195 c195) (.l 196 c196))) (.n 199 (.n 198 (.l 197 c197) (.l 198 c198)) (.n 201 (.l 199 c199) (.l 201 c201)))) (.n 206 (.n 204 (.n 203 (.l 202 c202) (.l 203 c203)) (.n 205 (.l 204 c204) (.l 205 c205))) (.n 208 (.n 207 (.l 206 c206) (.l 207 c207)) (.n 224 (.l 208 c208) (.l 224 c224))))) (.n 233 (.n 229 (.n 227 (.n 226 (.l 225 c225) (.l 226 c226)) (.n 228 (.l 227 c227) (.l 228 c228))) (.n 231 (.n 230 (.l 229 c229) (.l 230 c230)) (.n 232 (.l 231 c231) (.l 232 c232)))) (.n 237 (.n 235 (.n 234 (.l 233 c233) (.l 234 c234)) (.n 236 (.l 235 c235) (.l 236 c236))) (.n 239 (.n 238 (.l 237 c237) (.l 238 c238)) (.n 240 (.l 239 c239) (.l 240 c240)))))) (.n 256 (.n 248 (.n 244 (.n 242 (.l 241 c241) (.n 243 (.l 242 c242) (.l 243 c243))) (.n 246 (.n 245 (.l 244 c244) (.l 245 c245)) (.n 247 (.l 246 c246) (.l 247 c247)))) (.n 252 (.n 250 (.n 249 (.l 248 c248) (.l 249 c249)) (.n 251 (.l 250 c250) (.l 251 c251))) (.n 254 (.n 253 (.l 252 c252) (.l 253 c253)) (.n 255 (.l 254 c254) (.l 255 c255))))) (.n 264 (.n 260 (.n 258 (.n 257 (.l 256 c256) (.l 257 c257)) (.n 259 (.l 258 c258) (.l 259 c259))) (.n 262 (.n 261 (.l 260 c260) (.l 261 c261)) (.n 263 (.l 262 c262) (.l 263 c263)))) (.n 268 (.n 266 (.n 265 (.l 264 c264) (.l 265 c265)) (.n 267 (.l 266 c266) (.l 267 c267))) (.n 270 (.n 269 (.l 268 c268) (.l 269 c269)) (.n 271 (.l 270 c270) (.l 271 c271)))))))))

end GoVm
