/- FnExactHistUndo: LC L45 L84 L47 L20 L46 L19 L88 L51 L89 L53 L23 L52 L22 L94 L57 L95 L59 L26 L58 L25 L60 L62 L28 L61 L27 L63 L115 L96 L64 L29 L49 L85 L48 L33 L71 L86 L131 L118 L120 L116 L117 L119 L97 L73 L127 L111 L87 L50 L21 L98 L65 L66. -/
import Derived.Test.YtinlbiphjgpmmaaBFnExactHistUndo2
import Derived.Test.YtinlbiphjgpmmaaProg
import Derived.KernelRfl
set_option linter.all false
set_option maxRecDepth 100000
set_option maxHeartbeats 8000000
section
namespace Go.Proofs.Ytinlbiphjgpmmaa.P
open Go Go.RowKit Go.Proofs.Ytinlbiphjgpmmaa.V
def Qa5.B : C := (.seq (.kp [0, 1] (.ops [o 4 (.mv (.k (.i .i64 0)))])) (.seq (.kp [1] (.ops [o 5 (.mv (.t 1)), o 6 (.mv (.t 0)), o 7 (.len false (.t 6)), o 8 (.bin .sub 0 (.t 5) (.t 7)), o 1 (.mv (.t 8))])) (.seq (.seq (.kp [1, 10] (.ops [o 9 (.mv (.t 1)), o 10 (.bin .lss 0 (.t 9) (.k (.i .i64 0)))])) (.cond (.t 10) (.seq (.kp [4] (.ops [o 4 (.mv (.k (.i .i64 (-1))))])) C.ret) C.skip)) (.seq (.kp [4] (.ops [o 11 (.mv (.t 1)), o 4 (.mv (.t 11))])) C.ret))))
def Qa5.F : V.Fn := ⟨1, Qa5.B, [.t 4]⟩
def Qa9.B : C := (.seq (.kp [0, 1] (.ops [o 4 (.mv (.k (.i .i64 0)))])) (.seq (.kp [1] (.ops [o 5 (.mv (.t 1)), o 6 (.mv (.t 0)), o 7 (.len false (.t 6)), o 8 (.bin .sub 0 (.t 5) (.t 7)), o 1 (.mv (.t 8))])) (.seq (.seq (.kp [1, 10] (.ops [o 9 (.mv (.t 1)), o 10 (.bin .lss 0 (.t 9) (.k (.i .i64 0)))])) (.cond (.t 10) (.seq (.kp [4] (.ops [o 4 (.mv (.k (.i .i64 (-1))))])) C.ret) C.skip)) (.seq (.kp [4] (.ops [o 11 (.mv (.t 1)), o 4 (.mv (.t 11))])) C.ret))))
def Qa9.F : V.Fn := ⟨1, Qa9.B, [.t 4]⟩
def QbA.B : C := (.seq (.kp [1, 2] (.ops [o 2 (.boxK (.t 0)), o 4 (.mv (.k (.i .i64 0)))])) (.seq (.kp [1] (.ops [o 5 (.faddr 1 (.t 2)), o 6 (.load none (.t 5)), o 7 (.mv (.t 1)), o 8 (.call 84 [false, false] [.t 6, .t 7]), o 1 (.mv (.t 8))])) (.seq (.seq (.kp [1, 10] (.ops [o 9 (.mv (.t 1)), o 10 (.bin .lss 0 (.t 9) (.k (.i .i64 0)))])) (.cond (.t 10) (.seq (.kp [4] (.ops [o 4 (.mv (.k (.i .i64 (-1))))])) C.ret) C.skip)) (.seq (.kp [4] (.ops [o 11 (.mv (.t 1)), o 4 (.mv (.t 11))])) C.ret))))
def QbA.F : V.Fn := ⟨1, QbA.B, [.t 4]⟩
def Qae.c0 : C := (.seq (.kp [4] (.ops [o 26 (.mv (.t 1)), o 4 (.mv (.t 26))])) C.ret)
def Qae.d1 : C := (.seq (.seq (.kp [0, 1, 5, 15] (.ops [o 12 (.mv (.t 5)), o 13 (.mv (.t 0)), o 14 (.len false (.t 13)), o 15 (.bin .lss 0 (.t 12) (.t 14))])) (.cond (.t 15) C.skip (.exit 0))) (.seq (.blk 1 (.seq (.kp [0, 1, 5] (.ops [o 18 (.mv (.t 0)), o 19 (.mv (.t 5)), o 20 (.iaddr 5 (.t 18) (.t 19)), o 21 (.load (some 5) (.t 20)), o 22 (.mv (.t 1)), o 23 (.call 47 [false, false] [.t 21, .t 22]), o 1 (.mv (.t 23))])) (.seq (.kp [0, 1, 5, 25] (.ops [o 24 (.mv (.t 1)), o 25 (.bin .lss 0 (.t 24) (.k (.i .i64 0)))])) (.cond (.t 25) (.seq (.kp [4] (.ops [o 4 (.mv (.k (.i .i64 (-1))))])) C.ret) C.skip)))) (.kp [0, 1, 5] (.ops [o 16 (.mv (.t 5)), o 17 (.bin .add 0 (.t 16) (.k (.i .i64 1))), o 5 (.mv (.t 17))]))))
def Qae.c1 : C := .loop 1 [0, 1, 5] Qae.d1
def Qae.B : C := (.seq (.kp [0, 1] (.ops [o 4 (.mv (.k (.i .i64 0)))])) (.seq (.kp [0, 1] (.ops [o 6 (.mv (.t 1)), o 7 (.mv (.t 0)), o 8 (.len false (.t 7)), o 9 (.bin .sub 0 (.t 6) (.t 8)), o 1 (.mv (.t 9))])) (.seq (.seq (.kp [0, 1, 11] (.ops [o 10 (.mv (.t 1)), o 11 (.bin .lss 0 (.t 10) (.k (.i .i64 0)))])) (.cond (.t 11) (.seq (.kp [4] (.ops [o 4 (.mv (.k (.i .i64 (-1))))])) C.ret) C.skip)) (.seq (.seq (.kp [0, 1, 5] (.ops [o 5 (.mv (.k (.i .i64 0)))])) (.blk 0 Qae.c1)) Qae.c0))))
def Qae.F : V.Fn := ⟨1, Qae.B, [.t 4]⟩
def Q4.c0 : C := (.seq (.kp [4] (.ops [o 26 (.mv (.t 1)), o 4 (.mv (.t 26))])) C.ret)
def Q4.d1 : C := (.seq (.seq (.kp [0, 1, 5, 15] (.ops [o 12 (.mv (.t 5)), o 13 (.mv (.t 0)), o 14 (.len false (.t 13)), o 15 (.bin .lss 0 (.t 12) (.t 14))])) (.cond (.t 15) C.skip (.exit 0))) (.seq (.blk 1 (.seq (.kp [0, 1, 5] (.ops [o 18 (.mv (.t 0)), o 19 (.mv (.t 5)), o 20 (.iaddr 1 (.t 18) (.t 19)), o 21 (.load none (.t 20)), o 22 (.mv (.t 1)), o 23 (.call 20 [false, false] [.t 21, .t 22]), o 1 (.mv (.t 23))])) (.seq (.kp [0, 1, 5, 25] (.ops [o 24 (.mv (.t 1)), o 25 (.bin .lss 0 (.t 24) (.k (.i .i64 0)))])) (.cond (.t 25) (.seq (.kp [4] (.ops [o 4 (.mv (.k (.i .i64 (-1))))])) C.ret) C.skip)))) (.kp [0, 1, 5] (.ops [o 16 (.mv (.t 5)), o 17 (.bin .add 0 (.t 16) (.k (.i .i64 1))), o 5 (.mv (.t 17))]))))
def Q4.c1 : C := .loop 1 [0, 1, 5] Q4.d1
def Q4.B : C := (.seq (.kp [0, 1] (.ops [o 4 (.mv (.k (.i .i64 0)))])) (.seq (.kp [0, 1] (.ops [o 6 (.mv (.t 1)), o 7 (.mv (.t 0)), o 8 (.len false (.t 7)), o 9 (.bin .sub 0 (.t 6) (.t 8)), o 1 (.mv (.t 9))])) (.seq (.seq (.kp [0, 1, 11] (.ops [o 10 (.mv (.t 1)), o 11 (.bin .lss 0 (.t 10) (.k (.i .i64 0)))])) (.cond (.t 11) (.seq (.kp [4] (.ops [o 4 (.mv (.k (.i .i64 (-1))))])) C.ret) C.skip)) (.seq (.seq (.kp [0, 1, 5] (.ops [o 5 (.mv (.k (.i .i64 0)))])) (.blk 0 Q4.c1)) Q4.c0))))
def Q4.F : V.Fn := ⟨1, Q4.B, [.t 4]⟩
def Qba.B : C := (.seq (.kp [1, 2] (.ops [o 2 (.boxK (.t 0)), o 4 (.mv (.k (.i .i64 0)))])) (.seq (.kp [1, 2] (.ops [o 5 (.faddr 0 (.t 2)), o 6 (.load none (.t 5)), o 7 (.mv (.t 1)), o 8 (.call 45 [false, false] [.t 6, .t 7]), o 1 (.mv (.t 8))])) (.seq (.seq (.kp [1, 2, 10] (.ops [o 9 (.mv (.t 1)), o 10 (.bin .lss 0 (.t 9) (.k (.i .i64 0)))])) (.cond (.t 10) (.seq (.kp [4] (.ops [o 4 (.mv (.k (.i .i64 (-1))))])) C.ret) C.skip)) (.seq (.kp [1] (.ops [o 11 (.faddr 1 (.t 2)), o 12 (.load none (.t 11)), o 13 (.mv (.t 1)), o 14 (.call 46 [false, false] [.t 12, .t 13]), o 1 (.mv (.t 14))])) (.seq (.seq (.kp [1, 16] (.ops [o 15 (.mv (.t 1)), o 16 (.bin .lss 0 (.t 15) (.k (.i .i64 0)))])) (.cond (.t 16) (.seq (.kp [4] (.ops [o 4 (.mv (.k (.i .i64 (-1))))])) C.ret) C.skip)) (.seq (.kp [4] (.ops [o 17 (.mv (.t 1)), o 4 (.mv (.t 17))])) C.ret))))))
def Qba.F : V.Fn := ⟨2, Qba.B, [.t 4]⟩
def Qbg.B : C := (.seq (.kp [1, 2] (.ops [o 1 (.boxK (.t 0)), o 2 (.alloc [.i .i64 0, .i .i64 0])])) (.seq (.kp [1, 2, 3] (.ops [o 3 (.alloc [.i .i64 0, .i .i64 0])])) (.seq (.kp [1, 2, 3] (.ops [o 4 (.faddr 0 (.t 1)), o 5 (.load none (.t 4)), o 6 (.faddr 0 (.t 3)), oz none none [] (.store 1 (.t 6) (.t 5))])) (.seq (.kp [2, 3] (.ops [o 7 (.faddr 1 (.t 1)), o 8 (.load none (.t 7)), o 9 (.faddr 1 (.t 3)), oz none none [] (.store 1 (.t 9) (.t 8))])) (.seq (.kp [2] (.ops [o 10 (.load (some 2) (.t 3)), oz none none [] (.store 2 (.t 2) (.t 10))])) C.ret)))))
def Qbg.F : V.Fn := ⟨0, Qbg.B, [.cell 2 (some 2)]⟩
def QZ.c0 : C := (.seq (.kp [2] (.ops [o 22 (.mv (.t 3)), o 2 (.mv (.t 22))])) C.ret)
def QZ.d1 : C := (.seq (.seq (.kp [0, 3, 4, 11] (.ops [o 8 (.mv (.t 4)), o 9 (.mv (.t 0)), o 10 (.len false (.t 9)), o 11 (.bin .lss 0 (.t 8) (.t 10))])) (.cond (.t 11) C.skip (.exit 0))) (.seq (.blk 1 (.kp [0, 3, 4] (.ops [o 14 (.mv (.t 3)), o 15 (.mv (.t 4)), o 16 (.mv (.t 0)), o 17 (.mv (.t 4)), o 18 (.iaddr 2 (.t 16) (.t 17)), o 19 (.load (some 2) (.t 18)), o 20 (.call 88 [false] [.t 19]), o 21 (.iaddr 2 (.t 14) (.t 15)), oz none none [] (.store 2 (.t 21) (.t 20))]))) (.kp [0, 3, 4] (.ops [o 12 (.mv (.t 4)), o 13 (.bin .add 0 (.t 12) (.k (.i .i64 1))), o 4 (.mv (.t 13))]))))
def QZ.c1 : C := .loop 1 [0, 3, 4] QZ.d1
def QZ.B : C := (.seq (.kp [0] (.ops [o 2 (.mv (.k (.nl 2)))])) (.seq (.kp [0, 3] (.ops [o 5 (.mv (.t 0)), o 6 (.len false (.t 5)), o 7 (.mks 2 16 [.i .i64 0, .i .i64 0] (.t 6)), o 3 (.mv (.t 7))])) (.seq (.seq (.kp [0, 3, 4] (.ops [o 4 (.mv (.k (.i .i64 0)))])) (.blk 0 QZ.c1)) QZ.c0)))
def QZ.F : V.Fn := ⟨1, QZ.B, [.t 2]⟩
def Qab.c0 : C := (.seq (.kp [2] (.ops [o 21 (.mv (.t 3)), o 2 (.mv (.t 21))])) C.ret)
def Qab.d1 : C := (.seq (.seq (.kp [0, 3, 4, 11] (.ops [o 8 (.mv (.t 4)), o 9 (.mv (.t 0)), o 10 (.len false (.t 9)), o 11 (.bin .lss 0 (.t 8) (.t 10))])) (.cond (.t 11) C.skip (.exit 0))) (.seq (.blk 1 (.kp [0, 3, 4] (.ops [o 14 (.mv (.t 3)), o 15 (.mv (.t 4)), o 16 (.mv (.t 0)), o 17 (.mv (.t 4)), o 18 (.iaddr 1 (.t 16) (.t 17)), o 19 (.load none (.t 18)), o 20 (.iaddr 1 (.t 14) (.t 15)), oz none none [] (.store 1 (.t 20) (.t 19))]))) (.kp [0, 3, 4] (.ops [o 12 (.mv (.t 4)), o 13 (.bin .add 0 (.t 12) (.k (.i .i64 1))), o 4 (.mv (.t 13))]))))
def Qab.c1 : C := .loop 1 [0, 3, 4] Qab.d1
def Qab.B : C := (.seq (.kp [0] (.ops [o 2 (.mv (.k (.nl 1)))])) (.seq (.kp [0, 3] (.ops [o 5 (.mv (.t 0)), o 6 (.len false (.t 5)), o 7 (.mks 1 8 [.i .i64 0] (.t 6)), o 3 (.mv (.t 7))])) (.seq (.seq (.kp [0, 3, 4] (.ops [o 4 (.mv (.k (.i .i64 0)))])) (.blk 0 Qab.c1)) Qab.c0)))
def Qab.F : V.Fn := ⟨1, Qab.B, [.t 2]⟩
def QbD.B : C := (.seq (.kp [1, 2] (.ops [o 1 (.boxK (.t 0)), o 2 (.alloc [.i .i64 0, .deep false false 1 [], .i .i64 0, .i .i64 0, .i .i64 0])])) (.seq (.kp [1, 2, 3] (.ops [o 3 (.alloc [.i .i64 0, .deep false false 1 [], .i .i64 0, .i .i64 0, .i .i64 0])])) (.seq (.kp [1, 2, 3] (.ops [o 4 (.faddr 0 (.t 1)), o 5 (.load none (.t 4)), o 6 (.faddr 0 (.t 3)), oz none none [] (.store 1 (.t 6) (.t 5))])) (.seq (.kp [1, 2, 3] (.ops [o 7 (.faddr 1 (.t 1)), o 8 (.load none (.t 7)), o 9 (.call 89 [false] [.t 8]), o 10 (.faddr 1 (.t 3)), oz none none [] (.store 1 (.t 10) (.t 9))])) (.seq (.kp [1, 2, 3] (.ops [o 11 (.faddr 2 (.t 1)), o 12 (.load none (.t 11)), o 13 (.faddr 2 (.t 3)), oz none none [] (.store 1 (.t 13) (.t 12))])) (.seq (.kp [1, 2, 3] (.ops [o 14 (.faddr 3 (.t 1)), o 15 (.load none (.t 14)), o 16 (.faddr 3 (.t 3)), oz none none [] (.store 1 (.t 16) (.t 15))])) (.seq (.kp [2, 3] (.ops [o 17 (.faddr 4 (.t 1)), o 18 (.load none (.t 17)), o 19 (.faddr 4 (.t 3)), oz none none [] (.store 1 (.t 19) (.t 18))])) (.seq (.kp [2] (.ops [o 20 (.load (some 5) (.t 3)), oz none none [20] (.store 5 (.t 2) (.t 20))])) C.ret))))))))
def QbD.F : V.Fn := ⟨1, QbD.B, [.cell 2 (some 5)]⟩
def Qai.c0 : C := (.seq (.kp [2] (.ops [o 22 (.mv (.t 3)), o 2 (.mv (.t 22))])) C.ret)
def Qai.d1 : C := (.seq (.seq (.kp [0, 3, 4, 11] (.ops [o 8 (.mv (.t 4)), o 9 (.mv (.t 0)), o 10 (.len false (.t 9)), o 11 (.bin .lss 0 (.t 8) (.t 10))])) (.cond (.t 11) C.skip (.exit 0))) (.seq (.blk 1 (.kp [0, 3, 4] (.ops [o 14 (.mv (.t 3)), o 15 (.mv (.t 4)), o 16 (.mv (.t 0)), o 17 (.mv (.t 4)), o 18 (.iaddr 5 (.t 16) (.t 17)), o 19 (.load (some 5) (.t 18)), o 20 (.call 53 [false] [.t 19]), o 21 (.iaddr 5 (.t 14) (.t 15)), oz none none [] (.store 5 (.t 21) (.t 20))]))) (.kp [0, 3, 4] (.ops [o 12 (.mv (.t 4)), o 13 (.bin .add 0 (.t 12) (.k (.i .i64 1))), o 4 (.mv (.t 13))]))))
def Qai.c1 : C := .loop 1 [0, 3, 4] Qai.d1
def Qai.B : C := (.seq (.kp [0] (.ops [o 2 (.mv (.k (.nl 5)))])) (.seq (.kp [0, 3] (.ops [o 5 (.mv (.t 0)), o 6 (.len false (.t 5)), o 7 (.mks 5 56 [.i .i64 0, .deep false false 1 [], .i .i64 0, .i .i64 0, .i .i64 0] (.t 6)), o 3 (.mv (.t 7))])) (.seq (.seq (.kp [0, 3, 4] (.ops [o 4 (.mv (.k (.i .i64 0)))])) (.blk 0 Qai.c1)) Qai.c0)))
def Qai.F : V.Fn := ⟨1, Qai.B, [.t 2]⟩
def Qaa.c0 : C := (.seq (.kp [2] (.ops [o 22 (.mv (.t 3)), o 2 (.mv (.t 22))])) C.ret)
def Qaa.d1 : C := (.seq (.seq (.kp [0, 3, 4, 11] (.ops [o 8 (.mv (.t 4)), o 9 (.mv (.t 0)), o 10 (.len false (.t 9)), o 11 (.bin .lss 0 (.t 8) (.t 10))])) (.cond (.t 11) C.skip (.exit 0))) (.seq (.blk 1 (.kp [0, 3, 4] (.ops [o 14 (.mv (.t 3)), o 15 (.mv (.t 4)), o 16 (.mv (.t 0)), o 17 (.mv (.t 4)), o 18 (.iaddr 1 (.t 16) (.t 17)), o 19 (.load none (.t 18)), o 20 (.call 23 [false] [.t 19]), o 21 (.iaddr 1 (.t 14) (.t 15)), oz none none [] (.store 1 (.t 21) (.t 20))]))) (.kp [0, 3, 4] (.ops [o 12 (.mv (.t 4)), o 13 (.bin .add 0 (.t 12) (.k (.i .i64 1))), o 4 (.mv (.t 13))]))))
def Qaa.c1 : C := .loop 1 [0, 3, 4] Qaa.d1
def Qaa.B : C := (.seq (.kp [0] (.ops [o 2 (.mv (.k (.nl 1)))])) (.seq (.kp [0, 3] (.ops [o 5 (.mv (.t 0)), o 6 (.len false (.t 5)), o 7 (.mks 1 24 [.deep false false 5 []] (.t 6)), o 3 (.mv (.t 7))])) (.seq (.seq (.kp [0, 3, 4] (.ops [o 4 (.mv (.k (.i .i64 0)))])) (.blk 0 Qaa.c1)) Qaa.c0)))
def Qaa.F : V.Fn := ⟨1, Qaa.B, [.t 2]⟩
def Qbh.B : C := (.seq (.kp [1, 2] (.ops [o 1 (.boxK (.t 0)), o 2 (.alloc [.deep false false 2 [], .deep false false 1 []])])) (.seq (.kp [1, 2, 3] (.ops [o 3 (.alloc [.deep false false 2 [], .deep false false 1 []])])) (.seq (.kp [1, 2, 3] (.ops [o 4 (.faddr 0 (.t 1)), o 5 (.load none (.t 4)), o 6 (.call 51 [false] [.t 5]), o 7 (.faddr 0 (.t 3)), oz none none [] (.store 1 (.t 7) (.t 6))])) (.seq (.kp [2, 3] (.ops [o 8 (.faddr 1 (.t 1)), o 9 (.load none (.t 8)), o 10 (.call 52 [false] [.t 9]), o 11 (.faddr 1 (.t 3)), oz none none [] (.store 1 (.t 11) (.t 10))])) (.seq (.kp [2] (.ops [o 12 (.load (some 2) (.t 3)), oz none none [12] (.store 2 (.t 2) (.t 12))])) C.ret)))))
def Qbh.F : V.Fn := ⟨2, Qbh.B, [.cell 2 (some 2)]⟩
def Qam.B : C := (.seq (.kp [0] (.ops [o 2 (.mv (.k (.nl 2)))])) (.seq (.kp [2] (.ops [o 3 (.lit 2 0 [.i .i64 0, .i .i64 0] []), o 4 (.mv (.t 0)), o 5 (.app 2 16 (.t 3) (.t 4)), o 2 (.mv (.t 5))])) C.ret))
def Qam.F : V.Fn := ⟨1, Qam.B, [.t 2]⟩
def QX.c0 : C := (.seq (.kp [2] (.ops [o 26 (.mv (.t 3)), o 2 (.mv (.t 26))])) C.ret)
def QX.d1 : C := (.seq (.seq (.kp [0, 3, 4, 10] (.ops [o 7 (.mv (.t 4)), o 8 (.mv (.t 0)), o 9 (.len false (.t 8)), o 10 (.bin .lss 0 (.t 7) (.t 9))])) (.cond (.t 10) C.skip (.exit 0))) (.seq (.blk 1 (.seq (.kp [0, 3, 4, 5] (.ops [o 13 (.mv (.t 0)), o 14 (.mv (.t 4)), o 15 (.iaddr 5 (.t 13) (.t 14)), o 16 (.load (some 5) (.t 15)), o 5 (.alloc [.i .i64 0, .deep false false 1 [], .i .i64 0, .i .i64 0, .i .i64 0]), oz none none [16] (.store 5 (.t 5) (.t 16))])) (.seq (.kp [0, 3, 4, 5] (.ops [o 17 (.lit 1 0 [.i .i64 0] []), o 18 (.faddr 1 (.t 5)), o 19 (.load none (.t 18)), o 20 (.app 1 8 (.t 17) (.t 19)), o 21 (.faddr 1 (.t 5)), oz none none [] (.store 1 (.t 21) (.t 20))])) (.kp [0, 3, 4] (.ops [o 22 (.mv (.t 3)), o 23 (.load (some 5) (.t 5)), oz (some 24) none [23] (.lit 5 1 [.i .i64 0, .deep false false 1 [], .i .i64 0, .i .i64 0, .i .i64 0] [(0, .t 23)]), o 25 (.app 5 56 (.t 22) (.t 24)), o 3 (.mv (.t 25))]))))) (.kp [0, 3, 4] (.ops [o 11 (.mv (.t 4)), o 12 (.bin .add 0 (.t 11) (.k (.i .i64 1))), o 4 (.mv (.t 12))]))))
def QX.c1 : C := .loop 1 [0, 3, 4] QX.d1
def QX.B : C := (.seq (.kp [0] (.ops [o 2 (.mv (.k (.nl 5)))])) (.seq (.kp [0, 3] (.ops [o 6 (.lit 5 0 [.i .i64 0, .deep false false 1 [], .i .i64 0, .i .i64 0, .i .i64 0] []), o 3 (.mv (.t 6))])) (.seq (.seq (.kp [0, 3, 4] (.ops [o 4 (.mv (.k (.i .i64 0)))])) (.blk 0 QX.c1)) QX.c0)))
def QX.F : V.Fn := ⟨1, QX.B, [.t 2]⟩
def QK.c0 : C := (.seq (.kp [2] (.ops [o 27 (.load (some 2) (.t 3)), oz none none [27] (.store 2 (.t 2) (.t 27))])) C.ret)
def QK.d1 : C := (.seq (.seq (.kp [1, 2, 3, 4, 13] (.ops [o 9 (.mv (.t 4)), o 10 (.faddr 1 (.t 1)), o 11 (.load none (.t 10)), o 12 (.len false (.t 11)), o 13 (.bin .lss 0 (.t 9) (.t 12))])) (.cond (.t 13) C.skip (.exit 0))) (.seq (.blk 1 (.kp [1, 2, 3, 4] (.draw (tk [0, 2, 3, 4, 5, 6] (.alt (tk [1, 7, 8, 9, 10, 11] .done) (tk [7] (.alt (tk [1, 8, 9, 10, 11] .done) (tk [8, 1, 9, 10, 11] .done))))) [o 16 (.faddr 1 (.t 3)), o 17 (.load none (.t 16)), o 18 (.faddr 1 (.t 1)), o 19 (.load none (.t 18)), o 20 (.mv (.t 4)), o 21 (.iaddr 1 (.t 19) (.t 20)), o 22 (.load none (.t 21)), o 23 (.call 49 [false] [.t 22]), o 24 (.lit 1 1 [.deep false false 5 []] [(0, .t 23)]), o 25 (.app 1 24 (.t 17) (.t 24)), o 26 (.faddr 1 (.t 3)), oz none none [] (.store 1 (.t 26) (.t 25))]))) (.kp [1, 2, 3, 4] (.ops [o 14 (.mv (.t 4)), o 15 (.bin .add 0 (.t 14) (.k (.i .i64 1))), o 4 (.mv (.t 15))]))))
def QK.c1 : C := .loop 2 [1, 2, 3, 4] QK.d1
def QK.B : C := (.seq (.kp [1, 2] (.ops [o 1 (.boxK (.t 0)), o 2 (.alloc [.deep false false 2 [], .deep false false 1 []])])) (.seq (.kp [1, 2, 3] (.ops [o 5 (.faddr 0 (.t 1)), o 6 (.load none (.t 5)), o 7 (.call 85 [false] [.t 6]), o 8 (.build [.nl 2, .nl 1] [(0, 1, .t 7)]), o 3 (.alloc [.deep false false 2 [], .deep false false 1 []]), oz none none [] (.store 2 (.t 3) (.t 8))])) (.seq (.seq (.kp [1, 2, 3, 4] (.ops [o 4 (.mv (.k (.i .i64 0)))])) (.blk 0 QK.c1)) QK.c0)))
def QK.F : V.Fn := ⟨2, QK.B, [.cell 2 (some 2)]⟩
def Qao.B : C := (.seq (.kp [0, 1, 2] (.ops [o 6 (.mv (.k (.b false)))])) (.seq (.kp [6] (.ops [o 7 (.mv (.t 0)), o 8 (.mv (.t 1)), o 9 (.bin .geq 0 (.t 7) (.t 8)), o 10 (.mv (.t 9)), og 11 10 true (.mv (.t 0)), og 12 10 true (.mv (.t 2)), og 13 10 true (.bin .leq 0 (.t 11) (.t 12)), o 14 (.pick (.t 10) (.t 13) (.k (.b false))), o 6 (.mv (.t 14))])) C.ret))
def Qao.F : V.Fn := ⟨0, Qao.B, [.t 6]⟩
def QaD.B : C := (.seq (.kp [0] (.ops [o 2 (.mv (.k (.b false)))])) (.seq (.kp [2] (.ops [o 3 (.mv (.t 0)), o 4 (.call 33 [false, false, false] [.t 3, .k (.i .i64 0), .k (.i .i64 5)]), o 2 (.mv (.t 4))])) C.ret))
def QaD.F : V.Fn := ⟨0, QaD.B, [.t 2]⟩
def Qw.c0 : C := (.seq (.kp [2] (.ops [o 56 (.mv (.t 0)), o 57 (.len false (.t 56)), o 58 (.call 33 [false, false, false] [.t 57, .k (.i .i64 1), .k (.i .i64 24)]), o 2 (.mv (.t 58))])) C.ret)
def Qw.d1 : C := (.seq (.seq (.kp [0, 3, 7] (.ops [o 4 (.mv (.t 3)), o 5 (.mv (.t 0)), o 6 (.len false (.t 5)), o 7 (.bin .lss 0 (.t 4) (.t 6))])) (.cond (.t 7) C.skip (.exit 0))) (.seq (.blk 1 (.seq (.kp [0, 3, 55] (.draw (sq 46) [o 10 (.mv (.t 0)), o 11 (.mv (.t 3)), o 12 (.iaddr 2 (.t 10) (.t 11)), o 13 (.faddr 0 (.t 12)), o 14 (.load none (.t 13)), o 15 (.call 71 [false] [.t 14]), o 16 (.un .not (.t 15)), o 17 (.mv (.t 16)), og 18 17 false (.mv (.t 0)), og 19 17 false (.mv (.t 3)), og 20 17 false (.iaddr 2 (.t 18) (.t 19)), og 21 17 false (.faddr 1 (.t 20)), og 22 17 false (.load none (.t 21)), og 23 17 false (.call 33 [false, false, false] [.t 22, .k (.i .i64 0), .k (.i .i64 12)]), og 24 17 false (.un .not (.t 23)), o 25 (.pick (.t 17) (.k (.b true)) (.t 24)), o 26 (.mv (.t 25)), og 27 26 false (.mv (.t 0)), og 28 26 false (.mv (.t 3)), og 29 26 false (.iaddr 2 (.t 27) (.t 28)), og 30 26 false (.faddr 1 (.t 29)), og 31 26 false (.load none (.t 30)), og 32 26 false (.bin .eql 0 (.t 31) (.k (.i .i64 0))), og 33 26 false (.mv (.t 3)), og 34 26 false (.bin .eql 0 (.t 33) (.k (.i .i64 0))), og 35 26 false (.bin .neq 1 (.t 32) (.t 34)), o 36 (.pick (.t 26) (.k (.b true)) (.t 35)), o 37 (.mv (.t 36)), og 38 37 false (.mv (.t 3)), og 39 37 false (.bin .gtr 0 (.t 38) (.k (.i .i64 0))), og 40 37 false (.mv (.t 39)), og 41 40 true (.mv (.t 0)), og 42 40 true (.mv (.t 3)), og 43 40 true (.iaddr 2 (.t 41) (.t 42)), og 44 40 true (.faddr 1 (.t 43)), og 45 40 true (.load none (.t 44)), og 46 40 true (.mv (.t 0)), og 47 40 true (.mv (.t 3)), og 48 40 true (.bin .sub 0 (.t 47) (.k (.i .i64 1))), og 49 40 true (.iaddr 2 (.t 46) (.t 48)), og 50 40 true (.faddr 1 (.t 49)), og 51 40 true (.load none (.t 50)), og 52 40 true (.bin .add 0 (.t 51) (.k (.i .i64 1))), og 53 40 true (.bin .gtr 0 (.t 45) (.t 52)), og 54 37 false (.pick (.t 40) (.t 53) (.k (.b false))), o 55 (.pick (.t 37) (.k (.b true)) (.t 54))])) (.cond (.t 55) (.seq (.kp [2] (.ops [o 2 (.mv (.k (.b false)))])) C.ret) C.skip))) (.kp [0, 3] (.ops [o 8 (.mv (.t 3)), o 9 (.bin .add 0 (.t 8) (.k (.i .i64 1))), o 3 (.mv (.t 9))]))))
def Qw.c1 : C := .loop 1 [0, 3] Qw.d1
def Qw.B : C := (.seq (.kp [0] (.ops [o 2 (.mv (.k (.b false)))])) (.seq (.seq (.kp [0, 3] (.ops [o 3 (.mv (.k (.i .i64 0)))])) (.blk 0 Qw.c1)) Qw.c0))
def Qw.F : V.Fn := ⟨1, Qw.B, [.t 2]⟩
def Qbo.B : C := (.seq (.kp [0, 1] (.ops [o 4 (.mv (.k (.b false)))])) (.seq (.kp [4] (.ops [o 5 (.mv (.t 0)), o 6 (.call 86 [false] [.t 5]), o 7 (.mv (.t 6)), og 8 7 true (.mv (.t 1)), og 9 7 true (.mv (.t 0)), og 10 7 true (.len false (.t 9)), og 11 7 true (.bin .sub 0 (.t 10) (.k (.i .i64 1))), og 12 7 true (.call 33 [false, false, false] [.t 8, .k (.i .i64 0), .t 11]), o 13 (.pick (.t 7) (.t 12) (.k (.b false))), o 4 (.mv (.t 13))])) C.ret))
def Qbo.F : V.Fn := ⟨1, Qbo.B, [.t 4]⟩
def Q7.c0 : C := (.seq (.kp [4] (.ops [o 31 (.mv (.t 5)), o 4 (.mv (.t 31))])) C.ret)
def Q7.d1 : C := (.seq (.seq (.kp [0, 1, 5, 28] (.draw (sq 17) [o 12 (.mv (.t 5)), o 13 (.mv (.t 0)), o 14 (.len false (.t 13)), o 15 (.bin .lss 0 (.t 12) (.t 14)), o 16 (.mv (.t 15)), og 17 16 true (.mv (.t 0)), og 18 16 true (.mv (.t 5)), og 19 16 true (.iaddr 2 (.t 17) (.t 18)), og 20 16 true (.faddr 1 (.t 19)), og 21 16 true (.load none (.t 20)), og 22 16 true (.mv (.t 0)), og 23 16 true (.mv (.t 1)), og 24 16 true (.iaddr 2 (.t 22) (.t 23)), og 25 16 true (.faddr 1 (.t 24)), og 26 16 true (.load none (.t 25)), og 27 16 true (.bin .gtr 0 (.t 21) (.t 26)), o 28 (.pick (.t 16) (.t 27) (.k (.b false)))])) (.cond (.t 28) C.skip (.exit 0))) (.blk 1 (.kp [0, 1, 5] (.ops [o 29 (.mv (.t 5)), o 30 (.bin .add 0 (.t 29) (.k (.i .i64 1))), o 5 (.mv (.t 30))]))))
def Q7.c1 : C := .loop 1 [0, 1, 5] Q7.d1
def Q7.B : C := (.seq (.kp [0, 1] (.ops [o 4 (.mv (.k (.i .i64 0)))])) (.seq (.seq (.kp [0, 1, 9] (.ops [o 6 (.mv (.t 0)), o 7 (.mv (.t 1)), o 8 (.call 131 [false, false] [.t 6, .t 7]), o 9 (.un .not (.t 8))])) (.cond (.t 9) (.seq (.kp [4] (.ops [o 4 (.mv (.k (.i .i64 (-1))))])) C.ret) C.skip)) (.seq (.kp [0, 1, 5] (.ops [o 10 (.mv (.t 1)), o 11 (.bin .add 0 (.t 10) (.k (.i .i64 1))), o 5 (.mv (.t 11))])) (.seq (.blk 0 Q7.c1) Q7.c0))))
def Q7.F : V.Fn := ⟨1, Q7.B, [.t 4]⟩
def QN.c0 : C := (.seq (.kp [4] (.ops [o 38 (.mv (.t 5)), o 4 (.mv (.t 38))])) C.ret)
def QN.d1 : C := (.seq (.seq (.kp [0, 1, 5, 6, 19] (.ops [o 10 (.mv (.t 0)), o 11 (.mv (.t 1)), o 12 (.call 131 [false, false] [.t 10, .t 11]), o 13 (.mv (.t 12)), og 14 13 true (.mv (.t 6)), og 15 13 true (.mv (.t 0)), og 16 13 true (.mv (.t 1)), og 17 13 true (.call 118 [false, false] [.t 15, .t 16]), og 18 13 true (.bin .lss 0 (.t 14) (.t 17)), o 19 (.pick (.t 13) (.t 18) (.k (.b false)))])) (.cond (.t 19) C.skip (.exit 0))) (.seq (.blk 1 (.seq (.kp [0, 1, 5, 6, 33] (.draw (sq 12) [o 22 (.mv (.t 0)), o 23 (.mv (.t 6)), o 24 (.iaddr 2 (.t 22) (.t 23)), o 25 (.faddr 1 (.t 24)), o 26 (.load none (.t 25)), o 27 (.mv (.t 0)), o 28 (.mv (.t 1)), o 29 (.iaddr 2 (.t 27) (.t 28)), o 30 (.faddr 1 (.t 29)), o 31 (.load none (.t 30)), o 32 (.bin .add 0 (.t 31) (.k (.i .i64 1))), o 33 (.bin .eql 0 (.t 26) (.t 32))])) (.cond (.t 33) (.kp [0, 1, 5, 6] (.ops [o 34 (.mv (.t 5)), o 35 (.mv (.t 6)), o 36 (.lit 1 1 [.i .i64 0] [(0, .t 35)]), o 37 (.app 1 8 (.t 34) (.t 36)), o 5 (.mv (.t 37))])) C.skip))) (.kp [0, 1, 5, 6] (.ops [o 20 (.mv (.t 6)), o 21 (.bin .add 0 (.t 20) (.k (.i .i64 1))), o 6 (.mv (.t 21))]))))
def QN.c1 : C := .loop 1 [0, 1, 5, 6] QN.d1
def QN.B : C := (.seq (.kp [0, 1] (.ops [o 4 (.mv (.k (.nl 1)))])) (.seq (.kp [0, 1, 5] (.ops [o 7 (.lit 1 0 [.i .i64 0] []), o 5 (.mv (.t 7))])) (.seq (.seq (.kp [0, 1, 5, 6] (.ops [o 8 (.mv (.t 1)), o 9 (.bin .add 0 (.t 8) (.k (.i .i64 1))), o 6 (.mv (.t 9))])) (.blk 0 QN.c1)) QN.c0)))
def QN.F : V.Fn := ⟨1, QN.B, [.t 4]⟩
def QV.c0 : C := (.seq (.kp [4] (.ops [o 36 (.mv (.t 5)), o 4 (.mv (.t 36))])) C.ret)
def QV.d1 : C := (.seq (.seq (.kp [0, 1, 5, 6, 14] (.ops [o 11 (.mv (.t 6)), o 12 (.mv (.t 1)), o 13 (.len false (.t 12)), o 14 (.bin .lss 0 (.t 11) (.t 13))])) (.cond (.t 14) C.skip (.exit 0))) (.seq (.blk 1 (.seq (.kp [0, 1, 6, 7] (.ops [o 17 (.mv (.t 0)), o 18 (.mv (.t 5)), o 19 (.call 120 [false, false] [.t 17, .t 18]), o 7 (.mv (.t 19))])) (.seq (.seq (.kp [0, 1, 6, 7, 28] (.ops [o 20 (.mv (.t 1)), o 21 (.mv (.t 6)), o 22 (.iaddr 1 (.t 20) (.t 21)), o 23 (.load none (.t 22)), o 24 (.mv (.t 7)), o 25 (.len false (.t 24)), o 26 (.bin .sub 0 (.t 25) (.k (.i .i64 1))), o 27 (.call 33 [false, false, false] [.t 23, .k (.i .i64 0), .t 26]), o 28 (.un .not (.t 27))])) (.cond (.t 28) (.seq (.kp [4] (.ops [o 4 (.mv (.k (.i .i64 (-1))))])) C.ret) C.skip)) (.kp [0, 1, 5, 6] (.ops [o 29 (.mv (.t 7)), o 30 (.mv (.t 1)), o 31 (.mv (.t 6)), o 32 (.iaddr 1 (.t 30) (.t 31)), o 33 (.load none (.t 32)), o 34 (.iaddr 1 (.t 29) (.t 33)), o 35 (.load none (.t 34)), o 5 (.mv (.t 35))]))))) (.kp [0, 1, 5, 6] (.ops [o 15 (.mv (.t 6)), o 16 (.bin .add 0 (.t 15) (.k (.i .i64 1))), o 6 (.mv (.t 16))]))))
def QV.c1 : C := .loop 2 [0, 1, 5, 6] QV.d1
def QV.B : C := (.seq (.kp [0, 1] (.ops [o 4 (.mv (.k (.i .i64 0)))])) (.seq (.seq (.kp [0, 1, 10] (.ops [o 8 (.mv (.t 0)), o 9 (.call 86 [false] [.t 8]), o 10 (.un .not (.t 9))])) (.cond (.t 10) (.seq (.kp [4] (.ops [o 4 (.mv (.k (.i .i64 (-1))))])) C.ret) C.skip)) (.seq (.kp [0, 1, 5] (.ops [o 5 (.mv (.k (.i .i64 0)))])) (.seq (.seq (.kp [0, 1, 5, 6] (.ops [o 6 (.mv (.k (.i .i64 0)))])) (.blk 0 QV.c1)) QV.c0))))
def QV.F : V.Fn := ⟨2, QV.B, [.t 4]⟩
def Qq.c0 : C := (.seq (.seq (.kp [10, 11, 107] (.ops [o 106 (.mv (.t 12)), o 107 (.bin .gtr 0 (.t 106) (.k (.i .i64 12)))])) (.cond (.t 107) (.seq (.kp [6, 7, 8] (.ops [o 6 (.mv (.k (.i .i64 7))), o 7 (.mv (.k (.i .i64 0))), o 8 (.mv (.k (.i .i64 0)))])) C.ret) C.skip)) (.seq (.kp [6, 7, 8] (.ops [o 108 (.mv (.t 10)), o 109 (.mv (.t 11)), o 6 (.mv (.k (.i .i64 0))), o 7 (.mv (.t 108)), o 8 (.mv (.t 109))])) C.ret))
def Qq.d1 : C := (.seq (.seq (.kp [0, 10, 11, 12, 13, 95] (.ops [o 93 (.mv (.t 13)), o 94 (.mv (.t 11)), o 95 (.bin .lss 0 (.t 93) (.t 94))])) (.cond (.t 95) C.skip (.exit 1))) (.seq (.blk 2 (.kp [0, 10, 11, 12, 13] (.ops [o 98 (.mv (.t 12)), o 99 (.mv (.t 0)), o 100 (.mv (.t 13)), o 101 (.iaddr 2 (.t 99) (.t 100)), o 102 (.faddr 1 (.t 101)), o 103 (.load none (.t 102)), o 104 (.bin .add 0 (.t 103) (.k (.i .i64 1))), o 105 (.mm true [.t 98, .t 104]), o 12 (.mv (.t 105))]))) (.kp [0, 10, 11, 12, 13] (.ops [o 96 (.mv (.t 13)), o 97 (.bin .add 0 (.t 96) (.k (.i .i64 1))), o 13 (.mv (.t 97))]))))
def Qq.c1 : C := .loop 2 [0, 10, 11, 12, 13] Qq.d1
def Qq.B : C := (.seq (.kp [0, 2, 4] (.ops [o 4 (.boxK (.t 1)), o 6 (.mv (.k (.i .i64 0))), o 7 (.mv (.k (.i .i64 0))), o 8 (.mv (.k (.i .i64 0)))])) (.seq (.blk 0 (.seq (.kp [0, 2, 4, 14] (.ops [o 15 (.faddr 0 (.t 4)), o 16 (.load none (.t 15)), o 17 (.call 33 [false, false, false] [.t 16, .k (.i .i64 1), .k (.i .i64 3)]), o 18 (.un .not (.t 17)), o 14 (.mv (.t 18))])) (.cond (.t 14) (.seq (.kp [6, 7, 8] (.ops [o 6 (.mv (.k (.i .i64 1))), o 7 (.mv (.k (.i .i64 0))), o 8 (.mv (.k (.i .i64 0)))])) C.ret) (.seq (.kp [0, 2, 4, 19] (.ops [o 20 (.mv (.t 2)), o 21 (.bin .lss 0 (.t 20) (.k (.i .i64 0))), o 19 (.mv (.t 21))])) (.cond (.t 19) (.seq (.kp [6, 7, 8] (.ops [o 6 (.mv (.k (.i .i64 2))), o 7 (.mv (.k (.i .i64 0))), o 8 (.mv (.k (.i .i64 0)))])) C.ret) (.seq (.kp [0, 2, 4, 22] (.ops [o 23 (.faddr 0 (.t 4)), o 24 (.load none (.t 23)), o 25 (.bin .neq 0 (.t 24) (.k (.i .i64 2))), o 26 (.mv (.t 25)), og 27 26 true (.faddr 2 (.t 4)), og 28 26 true (.load none (.t 27)), og 29 26 true (.call 71 [false] [.t 28]), og 30 26 true (.un .not (.t 29)), o 31 (.pick (.t 26) (.t 30) (.k (.b false))), o 22 (.mv (.t 31))])) (.cond (.t 22) (.seq (.kp [6, 7, 8] (.ops [o 6 (.mv (.k (.i .i64 3))), o 7 (.mv (.k (.i .i64 0))), o 8 (.mv (.k (.i .i64 0)))])) C.ret) (.seq (.kp [0, 2, 4, 32] (.ops [o 33 (.faddr 0 (.t 4)), o 34 (.load none (.t 33)), o 35 (.bin .eql 0 (.t 34) (.k (.i .i64 2))), o 36 (.mv (.t 35)), og 37 36 true (.mv (.t 2)), og 38 36 true (.bin .eql 0 (.t 37) (.k (.i .i64 0))), o 39 (.pick (.t 36) (.t 38) (.k (.b false))), o 32 (.mv (.t 39))])) (.cond (.t 32) (.seq (.kp [6, 7, 8] (.ops [o 6 (.mv (.k (.i .i64 4))), o 7 (.mv (.k (.i .i64 0))), o 8 (.mv (.k (.i .i64 0)))])) C.ret) (.seq (.kp [0, 2, 4, 40] (.ops [o 41 (.faddr 0 (.t 4)), o 42 (.load none (.t 41)), o 43 (.bin .neq 0 (.t 42) (.k (.i .i64 3))), o 40 (.mv (.t 43))])) (.cond (.t 40) (.seq (.kp [6, 7, 8] (.ops [o 6 (.mv (.k (.i .i64 0))), o 7 (.mv (.k (.i .i64 0))), o 8 (.mv (.k (.i .i64 0)))])) C.ret) C.skip))))))))))) (.seq (.kp [0, 2, 4, 9] (.ops [o 44 (.mv (.t 0)), o 45 (.mv (.t 2)), o 46 (.call 120 [false, false] [.t 44, .t 45]), o 9 (.mv (.t 46))])) (.seq (.seq (.kp [0, 2, 4, 9, 63] (.ops [o 47 (.faddr 3 (.t 4)), o 48 (.load none (.t 47)), o 49 (.mv (.t 9)), o 50 (.len false (.t 49)), o 51 (.call 33 [false, false, false] [.t 48, .k (.i .i64 0), .t 50]), o 52 (.un .not (.t 51)), o 53 (.mv (.t 52)), og 54 53 false (.faddr 4 (.t 4)), og 55 53 false (.load none (.t 54)), og 56 53 false (.mv (.t 9)), og 57 53 false (.len false (.t 56)), og 58 53 false (.faddr 3 (.t 4)), og 59 53 false (.load none (.t 58)), og 60 53 false (.bin .sub 0 (.t 57) (.t 59)), og 61 53 false (.call 33 [false, false, false] [.t 55, .k (.i .i64 0), .t 60]), og 62 53 false (.un .not (.t 61)), o 63 (.pick (.t 53) (.k (.b true)) (.t 62))])) (.cond (.t 63) (.seq (.kp [6, 7, 8] (.ops [o 6 (.mv (.k (.i .i64 5))), o 7 (.mv (.k (.i .i64 0))), o 8 (.mv (.k (.i .i64 0)))])) C.ret) C.skip)) (.seq (.kp [0, 2, 4, 9] (.ops [o 64 (.mv (.t 9)), o 65 (.mv (.t 0)), o 66 (.mv (.t 2)), o 67 (.call 118 [false, false] [.t 65, .t 66]), o 68 (.lit 1 1 [.i .i64 0] [(0, .t 67)]), o 69 (.app 1 8 (.t 64) (.t 68)), o 9 (.mv (.t 69))])) (.seq (.kp [0, 2, 4, 9, 10] (.ops [o 70 (.mv (.t 9)), o 71 (.faddr 3 (.t 4)), o 72 (.load none (.t 71)), o 73 (.iaddr 1 (.t 70) (.t 72)), o 74 (.load none (.t 73)), o 10 (.mv (.t 74))])) (.seq (.kp [0, 2, 10, 11] (.ops [o 75 (.mv (.t 9)), o 76 (.faddr 3 (.t 4)), o 77 (.load none (.t 76)), o 78 (.faddr 4 (.t 4)), o 79 (.load none (.t 78)), o 80 (.bin .add 0 (.t 77) (.t 79)), o 81 (.iaddr 1 (.t 75) (.t 80)), o 82 (.load none (.t 81)), o 11 (.mv (.t 82))])) (.seq (.seq (.kp [0, 2, 10, 11, 85] (.ops [o 83 (.mv (.t 0)), o 84 (.len false (.t 83)), o 85 (.bin .eql 0 (.t 84) (.k (.i .i64 24)))])) (.cond (.t 85) (.seq (.kp [6, 7, 8] (.ops [o 6 (.mv (.k (.i .i64 6))), o 7 (.mv (.k (.i .i64 0))), o 8 (.mv (.k (.i .i64 0)))])) C.ret) C.skip)) (.seq (.kp [0, 10, 11, 12] (.ops [o 86 (.mv (.t 0)), o 87 (.mv (.t 2)), o 88 (.iaddr 2 (.t 86) (.t 87)), o 89 (.faddr 1 (.t 88)), o 90 (.load none (.t 89)), o 91 (.bin .add 0 (.t 90) (.k (.i .i64 1))), o 12 (.mv (.t 91))])) (.seq (.seq (.kp [0, 10, 11, 12, 13] (.ops [o 92 (.mv (.t 10)), o 13 (.mv (.t 92))])) (.blk 1 Qq.c1)) Qq.c0))))))))))
def Qq.F : V.Fn := ⟨2, Qq.B, [.t 6, .t 7, .t 8]⟩
def Qx.c0 : C := (.seq (.kp [8] (.ops [o 34 (.mv (.t 9)), o 8 (.mv (.t 34))])) C.ret)
def Qx.d1 : C := (.seq (.seq (.kp [0, 2, 3, 9, 10, 15] (.ops [o 13 (.mv (.t 10)), o 14 (.mv (.t 2)), o 15 (.bin .lss 0 (.t 13) (.t 14))])) (.cond (.t 15) C.skip (.exit 0))) (.seq (.blk 1 (.kp [0, 2, 3, 9, 10] (.draw (sq 17) [o 18 (.mv (.t 9)), o 19 (.mv (.t 0)), o 20 (.mv (.t 10)), o 21 (.iaddr 2 (.t 19) (.t 20)), o 22 (.faddr 0 (.t 21)), o 23 (.load none (.t 22)), o 24 (.mv (.t 0)), o 25 (.mv (.t 10)), o 26 (.iaddr 2 (.t 24) (.t 25)), o 27 (.faddr 1 (.t 26)), o 28 (.load none (.t 27)), o 29 (.mv (.t 3)), o 30 (.bin .add 0 (.t 28) (.t 29)), o 31 (.build [.i .i64 0, .i .i64 0] [(0, 1, .t 23), (1, 1, .t 30)]), o 32 (.lit 2 1 [.i .i64 0, .i .i64 0] [(0, .t 31)]), o 33 (.app 2 16 (.t 18) (.t 32)), o 9 (.mv (.t 33))]))) (.kp [0, 2, 3, 9, 10] (.ops [o 16 (.mv (.t 10)), o 17 (.bin .add 0 (.t 16) (.k (.i .i64 1))), o 10 (.mv (.t 17))]))))
def Qx.c1 : C := .loop 1 [0, 2, 3, 9, 10] Qx.d1
def Qx.B : C := (.seq (.kp [0, 1, 2, 3] (.ops [o 8 (.mv (.k (.nl 2)))])) (.seq (.kp [0, 1, 2, 3, 9] (.ops [o 11 (.lit 2 0 [.i .i64 0, .i .i64 0] []), o 9 (.mv (.t 11))])) (.seq (.seq (.kp [0, 2, 3, 9, 10] (.ops [o 12 (.mv (.t 1)), o 10 (.mv (.t 12))])) (.blk 0 Qx.c1)) Qx.c0)))
def Qx.F : V.Fn := ⟨1, Qx.B, [.t 8]⟩
def QaK.B : C := (.seq (.kp [0, 3] (.ops [o 3 (.boxK (.t 1)), o 4 (.mv (.k (.nl 2))), o 5 (.mv (.k (.i .i64 0)))])) (.seq (.seq (.kp [0, 3, 14] (.ops [o 12 (.mv (.t 0)), o 13 (.call 86 [false] [.t 12]), o 14 (.un .not (.t 13))])) (.cond (.t 14) (.seq (.kp [4, 5] (.ops [o 15 (.lit 2 0 [.i .i64 0, .i .i64 0] []), o 4 (.mv (.t 15)), o 5 (.mv (.k (.i .i64 2)))])) C.ret) C.skip)) (.seq (.kp [0, 3, 6] (.ops [o 16 (.mv (.t 0)), o 17 (.faddr 1 (.t 3)), o 18 (.load none (.t 17)), o 19 (.call 116 [false, false] [.t 16, .t 18]), o 6 (.mv (.t 19))])) (.seq (.kp [0, 3, 6, 7] (.ops [o 20 (.mv (.t 0)), o 21 (.call 85 [false] [.t 20]), o 7 (.mv (.t 21))])) (.seq (.kp [0, 3, 6, 7, 8, 9, 10] (.ops [o 23 (.mv (.t 0)), o 24 (.load (some 5) (.t 3)), o 25 (.mv (.t 6)), o 26 (.call 117 [false, false, false] [.t 23, .t 24, .t 25]), o 22 (.mv (.t 26)), o 27 (.ext 0 (.t 22)), o 28 (.ext 1 (.t 22)), o 29 (.ext 2 (.t 22)), o 8 (.mv (.t 27)), o 9 (.mv (.t 28)), o 10 (.mv (.t 29))])) (.seq (.seq (.kp [0, 3, 6, 7, 8, 9, 10, 31] (.ops [o 30 (.mv (.t 8)), o 31 (.bin .neq 0 (.t 30) (.k (.i .i64 0)))])) (.cond (.t 31) (.seq (.kp [4, 5] (.ops [o 32 (.mv (.t 7)), o 33 (.mv (.t 8)), o 4 (.mv (.t 32)), o 5 (.mv (.t 33))])) C.ret) C.skip)) (.seq (.seq (.kp [0, 3, 6, 7, 8, 9, 10, 35] (.ops [o 34 (.faddr 0 (.t 3)), o 35 (.load none (.t 34))])) (.blk 0 (.seq (.kp [0, 3, 6, 7, 8, 9, 10, 35, 36] (.ops [o 37 (.bin .eql 0 (.t 35) (.k (.i .i64 1))), o 36 (.mv (.t 37))])) (.cond (.t 36) (.seq (.kp [7, 8] (.ops [o 38 (.mv (.t 7)), o 39 (.mv (.t 6)), o 40 (.faddr 2 (.t 3)), o 41 (.load none (.t 40)), o 42 (.iaddr 2 (.t 38) (.t 39)), o 43 (.faddr 0 (.t 42)), oz none none [] (.store 1 (.t 43) (.t 41))])) (.seq (.kp [4, 5] (.ops [o 44 (.mv (.t 7)), o 45 (.mv (.t 8)), o 4 (.mv (.t 44)), o 5 (.mv (.t 45))])) C.ret)) (.seq (.kp [0, 3, 6, 8, 9, 10, 46] (.ops [o 47 (.bin .eql 0 (.t 35) (.k (.i .i64 2))), o 46 (.mv (.t 47))])) (.cond (.t 46) (.seq (.kp [0, 6, 8, 11] (.ops [o 48 (.mv (.t 0)), o 49 (.mv (.t 6)), o 50 (.call 118 [false, false] [.t 48, .t 49]), o 11 (.mv (.t 50))])) (.seq (.kp [0, 7, 8, 11] (.ops [o 51 (.mv (.t 0)), o 52 (.mv (.t 6)), o 53 (.call 119 [false, false, false, false] [.t 51, .k (.i .i64 0), .t 52, .k (.i .i64 0)]), o 54 (.mv (.t 0)), o 55 (.mv (.t 6)), o 56 (.bin .add 0 (.t 55) (.k (.i .i64 1))), o 57 (.mv (.t 11)), o 58 (.call 119 [false, false, false, false] [.t 54, .t 56, .t 57, .k (.i .i64 (-1))]), o 59 (.app 2 16 (.t 53) (.t 58)), o 7 (.mv (.t 59))])) (.seq (.kp [4, 5] (.ops [o 60 (.mv (.t 7)), o 61 (.mv (.t 0)), o 62 (.mv (.t 11)), o 63 (.mv (.t 0)), o 64 (.len false (.t 63)), o 65 (.call 119 [false, false, false, false] [.t 61, .t 62, .t 64, .k (.i .i64 0)]), o 66 (.app 2 16 (.t 60) (.t 65)), o 67 (.mv (.t 8)), o 4 (.mv (.t 66)), o 5 (.mv (.t 67))])) C.ret))) C.skip)))))) (.seq (.kp [0, 7, 8, 9, 10] (.draw (tk [0, 1, 3, 5, 6, 7, 8] (.alt (tk [2, 4, 9, 10, 11, 12, 13, 14] .done) (tk [] (.alt (tk [4] (.alt (tk [2, 9, 10, 11, 12, 13, 14] .done) (tk [9, 10, 11] (.alt (tk [2, 12, 13, 14] .done) (tk [12, 2, 13, 14] .done))))) (tk [9, 10] (.alt (tk [2, 4, 11, 12, 13, 14] .done) (tk [4, 11] (.alt (tk [2, 12, 13, 14] .done) (tk [12, 2, 13, 14] .done))))))))) [o 68 (.mv (.t 0)), o 69 (.mv (.t 9)), o 70 (.call 119 [false, false, false, false] [.t 68, .k (.i .i64 0), .t 69, .k (.i .i64 0)]), o 71 (.faddr 2 (.t 3)), o 72 (.load none (.t 71)), o 73 (.mv (.t 0)), o 74 (.mv (.t 6)), o 75 (.iaddr 2 (.t 73) (.t 74)), o 76 (.faddr 1 (.t 75)), o 77 (.load none (.t 76)), o 78 (.bin .add 0 (.t 77) (.k (.i .i64 1))), o 79 (.build [.i .i64 0, .i .i64 0] [(0, 1, .t 72), (1, 1, .t 78)]), o 80 (.lit 2 1 [.i .i64 0, .i .i64 0] [(0, .t 79)]), o 81 (.app 2 16 (.t 70) (.t 80)), o 7 (.mv (.t 81))])) (.seq (.kp [0, 7, 8, 10] (.ops [o 82 (.mv (.t 7)), o 83 (.mv (.t 0)), o 84 (.mv (.t 9)), o 85 (.mv (.t 10)), o 86 (.call 119 [false, false, false, false] [.t 83, .t 84, .t 85, .k (.i .i64 1)]), o 87 (.app 2 16 (.t 82) (.t 86)), o 7 (.mv (.t 87))])) (.seq (.kp [4, 5] (.ops [o 88 (.mv (.t 7)), o 89 (.mv (.t 0)), o 90 (.mv (.t 10)), o 91 (.mv (.t 0)), o 92 (.len false (.t 91)), o 93 (.call 119 [false, false, false, false] [.t 89, .t 90, .t 92, .k (.i .i64 0)]), o 94 (.app 2 16 (.t 88) (.t 93)), o 95 (.mv (.t 8)), o 4 (.mv (.t 94)), o 5 (.mv (.t 95))])) C.ret))))))))))
def QaK.F : V.Fn := ⟨2, QaK.B, [.t 4, .t 5]⟩
def Qt.c0 : C := (.seq (.kp [4, 5, 6] (.ops [o 38 (.mv (.t 7)), o 39 (.mv (.t 1)), o 40 (.len false (.t 39)), o 4 (.mv (.t 38)), o 5 (.mv (.t 40)), o 6 (.mv (.k (.i .i64 0)))])) C.ret)
def Qt.d1 : C := (.seq (.seq (.kp [1, 7, 8, 20] (.ops [o 17 (.mv (.t 8)), o 18 (.mv (.t 1)), o 19 (.len false (.t 18)), o 20 (.bin .lss 0 (.t 17) (.t 19))])) (.cond (.t 20) C.skip (.exit 0))) (.seq (.blk 1 (.seq (.kp [1, 7, 8, 9, 10] (.ops [o 24 (.mv (.t 7)), o 25 (.mv (.t 1)), o 26 (.mv (.t 8)), o 27 (.iaddr 5 (.t 25) (.t 26)), o 28 (.load (some 5) (.t 27)), o 29 (.call 97 [false, false] [.t 24, .t 28]), o 23 (.mv (.t 29)), o 30 (.ext 0 (.t 23)), o 31 (.ext 1 (.t 23)), o 9 (.mv (.t 30)), o 10 (.mv (.t 31))])) (.seq (.seq (.kp [1, 7, 8, 9, 10, 33] (.ops [o 32 (.mv (.t 10)), o 33 (.bin .neq 0 (.t 32) (.k (.i .i64 0)))])) (.cond (.t 33) (.seq (.kp [4, 5, 6] (.ops [o 34 (.mv (.t 7)), o 35 (.mv (.t 8)), o 36 (.mv (.t 10)), o 4 (.mv (.t 34)), o 5 (.mv (.t 35)), o 6 (.mv (.t 36))])) C.ret) C.skip)) (.kp [1, 7, 8] (.ops [o 37 (.mv (.t 9)), o 7 (.mv (.t 37))]))))) (.kp [1, 7, 8] (.ops [o 21 (.mv (.t 8)), o 22 (.bin .add 0 (.t 21) (.k (.i .i64 1))), o 8 (.mv (.t 22))]))))
def Qt.c1 : C := .loop 2 [1, 7, 8] Qt.d1
def Qt.B : C := (.seq (.kp [0, 1] (.ops [o 4 (.mv (.k (.nl 2))), o 5 (.mv (.k (.i .i64 0))), o 6 (.mv (.k (.i .i64 0)))])) (.seq (.seq (.kp [0, 1, 13] (.ops [o 11 (.mv (.t 0)), o 12 (.call 86 [false] [.t 11]), o 13 (.un .not (.t 12))])) (.cond (.t 13) (.seq (.kp [4, 5, 6] (.ops [o 14 (.lit 2 0 [.i .i64 0, .i .i64 0] []), o 4 (.mv (.t 14)), o 5 (.mv (.k (.i .i64 0))), o 6 (.mv (.k (.i .i64 2)))])) C.ret) C.skip)) (.seq (.kp [1, 7] (.ops [o 15 (.mv (.t 0)), o 16 (.call 85 [false] [.t 15]), o 7 (.mv (.t 16))])) (.seq (.seq (.kp [1, 7, 8] (.ops [o 8 (.mv (.k (.i .i64 0)))])) (.blk 0 Qt.c1)) Qt.c0))))
def Qt.F : V.Fn := ⟨2, Qt.B, [.t 4, .t 5, .t 6]⟩
def QY.c0 : C := (.seq (.kp [2] (.ops [o 16 (.mv (.t 0)), o 17 (.len false (.t 16)), o 18 (.bin .leq 0 (.t 17) (.k (.i .i64 12))), o 2 (.mv (.t 18))])) C.ret)
def QY.d1 : C := (.seq (.seq (.kp [0, 3, 7] (.ops [o 4 (.mv (.t 3)), o 5 (.mv (.t 0)), o 6 (.len false (.t 5)), o 7 (.bin .lss 0 (.t 4) (.t 6))])) (.cond (.t 7) C.skip (.exit 0))) (.seq (.blk 1 (.seq (.kp [0, 3, 15] (.ops [o 10 (.mv (.t 0)), o 11 (.mv (.t 3)), o 12 (.iaddr 1 (.t 10) (.t 11)), o 13 (.load none (.t 12)), o 14 (.call 33 [false, false, false] [.t 13, .k (.i .i64 0), .k (.i .i64 24)]), o 15 (.un .not (.t 14))])) (.cond (.t 15) (.seq (.kp [2] (.ops [o 2 (.mv (.k (.b false)))])) C.ret) C.skip))) (.kp [0, 3] (.ops [o 8 (.mv (.t 3)), o 9 (.bin .add 0 (.t 8) (.k (.i .i64 1))), o 3 (.mv (.t 9))]))))
def QY.c1 : C := .loop 1 [0, 3] QY.d1
def QY.B : C := (.seq (.kp [0] (.ops [o 2 (.mv (.k (.b false)))])) (.seq (.seq (.kp [0, 3] (.ops [o 3 (.mv (.k (.i .i64 0)))])) (.blk 0 QY.c1)) QY.c0))
def QY.F : V.Fn := ⟨1, QY.B, [.t 2]⟩
def Qbz.B : C := (.seq (.kp [1] (.ops [o 1 (.boxK (.t 0)), o 2 (.mv (.k (.b false)))])) (.seq (.seq (.kp [1, 6] (.ops [o 3 (.faddr 1 (.t 1)), o 4 (.load none (.t 3)), o 5 (.call 127 [false] [.t 4]), o 6 (.un .not (.t 5))])) (.cond (.t 6) (.seq (.kp [2] (.ops [o 2 (.mv (.k (.b false)))])) C.ret) C.skip)) (.seq (.seq (.kp [1, 8] (.ops [o 7 (.faddr 0 (.t 1)), o 8 (.load none (.t 7))])) (.blk 0 (.seq (.kp [1, 8, 9] (.ops [o 10 (.bin .eql 0 (.t 8) (.k (.i .i64 1))), o 9 (.mv (.t 10))])) (.cond (.t 9) (.seq (.kp [2] (.ops [o 11 (.faddr 2 (.t 1)), o 12 (.load none (.t 11)), o 13 (.call 71 [false] [.t 12]), o 14 (.mv (.t 13)), og 15 14 true (.faddr 3 (.t 1)), og 16 14 true (.load none (.t 15)), og 17 14 true (.bin .eql 0 (.t 16) (.k (.i .i64 0))), o 18 (.pick (.t 14) (.t 17) (.k (.b false))), o 19 (.mv (.t 18)), og 20 19 true (.faddr 4 (.t 1)), og 21 19 true (.load none (.t 20)), og 22 19 true (.bin .eql 0 (.t 21) (.k (.i .i64 0))), o 23 (.pick (.t 19) (.t 22) (.k (.b false))), o 2 (.mv (.t 23))])) C.ret) (.seq (.kp [1, 8, 24] (.ops [o 25 (.bin .eql 0 (.t 8) (.k (.i .i64 2))), o 24 (.mv (.t 25))])) (.cond (.t 24) (.seq (.kp [2] (.ops [o 26 (.faddr 2 (.t 1)), o 27 (.load none (.t 26)), o 28 (.bin .eql 0 (.t 27) (.k (.i .i64 0))), o 29 (.mv (.t 28)), og 30 29 true (.faddr 3 (.t 1)), og 31 29 true (.load none (.t 30)), og 32 29 true (.bin .eql 0 (.t 31) (.k (.i .i64 0))), o 33 (.pick (.t 29) (.t 32) (.k (.b false))), o 34 (.mv (.t 33)), og 35 34 true (.faddr 4 (.t 1)), og 36 34 true (.load none (.t 35)), og 37 34 true (.bin .eql 0 (.t 36) (.k (.i .i64 0))), o 38 (.pick (.t 34) (.t 37) (.k (.b false))), o 2 (.mv (.t 38))])) C.ret) (.seq (.kp [1, 39] (.ops [o 40 (.bin .eql 0 (.t 8) (.k (.i .i64 3))), o 39 (.mv (.t 40))])) (.cond (.t 39) (.seq (.kp [2] (.ops [o 41 (.faddr 2 (.t 1)), o 42 (.load none (.t 41)), o 43 (.call 71 [false] [.t 42]), o 44 (.mv (.t 43)), og 45 44 true (.faddr 3 (.t 1)), og 46 44 true (.load none (.t 45)), og 47 44 true (.call 33 [false, false, false] [.t 46, .k (.i .i64 0), .k (.i .i64 24)]), o 48 (.pick (.t 44) (.t 47) (.k (.b false))), o 49 (.mv (.t 48)), og 50 49 true (.faddr 4 (.t 1)), og 51 49 true (.load none (.t 50)), og 52 49 true (.call 33 [false, false, false] [.t 51, .k (.i .i64 0), .k (.i .i64 24)]), o 53 (.pick (.t 49) (.t 52) (.k (.b false))), o 2 (.mv (.t 53))])) C.ret) C.skip)))))))) (.seq (.kp [2] (.ops [o 2 (.mv (.k (.b false)))])) C.ret))))
def Qbz.F : V.Fn := ⟨1, Qbz.B, [.t 2]⟩
def QI.c0 : C := (.seq (.kp [2] (.ops [o 16 (.mv (.t 0)), o 17 (.len false (.t 16)), o 18 (.bin .leq 0 (.t 17) (.k (.i .i64 60))), o 2 (.mv (.t 18))])) C.ret)
def QI.d1 : C := (.seq (.seq (.kp [0, 3, 7] (.ops [o 4 (.mv (.t 3)), o 5 (.mv (.t 0)), o 6 (.len false (.t 5)), o 7 (.bin .lss 0 (.t 4) (.t 6))])) (.cond (.t 7) C.skip (.exit 0))) (.seq (.blk 1 (.seq (.kp [0, 3, 15] (.ops [o 10 (.mv (.t 0)), o 11 (.mv (.t 3)), o 12 (.iaddr 5 (.t 10) (.t 11)), o 13 (.load (some 5) (.t 12)), o 14 (.call 111 [false] [.t 13]), o 15 (.un .not (.t 14))])) (.cond (.t 15) (.seq (.kp [2] (.ops [o 2 (.mv (.k (.b false)))])) C.ret) C.skip))) (.kp [0, 3] (.ops [o 8 (.mv (.t 3)), o 9 (.bin .add 0 (.t 8) (.k (.i .i64 1))), o 3 (.mv (.t 9))]))))
def QI.c1 : C := .loop 1 [0, 3] QI.d1
def QI.B : C := (.seq (.kp [0] (.ops [o 2 (.mv (.k (.b false)))])) (.seq (.seq (.kp [0, 3] (.ops [o 3 (.mv (.k (.i .i64 0)))])) (.blk 0 QI.c1)) QI.c0))
def QI.F : V.Fn := ⟨1, QI.B, [.t 2]⟩
def QA.c0 : C := (.seq (.kp [2] (.ops [o 2 (.mv (.k (.b true)))])) C.ret)
def QA.d1 : C := (.seq (.seq (.kp [1, 3, 4, 25] (.ops [o 21 (.mv (.t 4)), o 22 (.faddr 1 (.t 1)), o 23 (.load none (.t 22)), o 24 (.len false (.t 23)), o 25 (.bin .lss 0 (.t 21) (.t 24))])) (.cond (.t 25) C.skip (.exit 0))) (.seq (.blk 1 (.seq (.kp [1, 4, 5, 7] (.ops [o 29 (.mv (.t 3)), o 30 (.faddr 1 (.t 1)), o 31 (.load none (.t 30)), o 32 (.mv (.t 4)), o 33 (.iaddr 1 (.t 31) (.t 32)), o 34 (.load none (.t 33)), o 35 (.call 73 [false, false] [.t 29, .t 34]), o 28 (.mv (.t 35)), o 36 (.ext 0 (.t 28)), o 37 (.ext 1 (.t 28)), o 38 (.ext 2 (.t 28)), o 5 (.mv (.t 36)), o 6 (.mv (.t 37)), o 7 (.mv (.t 38))])) (.seq (.seq (.kp [1, 4, 5, 49] (.ops [o 39 (.mv (.t 7)), o 40 (.bin .neq 0 (.t 39) (.k (.i .i64 0))), o 41 (.mv (.t 40)), og 42 41 false (.faddr 1 (.t 1)), og 43 41 false (.load none (.t 42)), og 44 41 false (.mv (.t 4)), og 45 41 false (.iaddr 1 (.t 43) (.t 44)), og 46 41 false (.load none (.t 45)), og 47 41 false (.call 87 [false] [.t 46]), og 48 41 false (.un .not (.t 47)), o 49 (.pick (.t 41) (.k (.b true)) (.t 48))])) (.cond (.t 49) (.seq (.kp [2] (.ops [o 2 (.mv (.k (.b false)))])) C.ret) C.skip)) (.kp [1, 3, 4] (.ops [o 50 (.mv (.t 5)), o 3 (.mv (.t 50))]))))) (.kp [1, 3, 4] (.ops [o 26 (.mv (.t 4)), o 27 (.bin .add 0 (.t 26) (.k (.i .i64 1))), o 4 (.mv (.t 27))]))))
def QA.c1 : C := .loop 2 [1, 3, 4] QA.d1
def QA.B : C := (.seq (.kp [1] (.ops [o 1 (.boxK (.t 0)), o 2 (.mv (.k (.b false)))])) (.seq (.seq (.kp [1, 17] (.ops [o 8 (.faddr 0 (.t 1)), o 9 (.load none (.t 8)), o 10 (.call 86 [false] [.t 9]), o 11 (.un .not (.t 10)), o 12 (.mv (.t 11)), og 13 12 false (.faddr 1 (.t 1)), og 14 12 false (.load none (.t 13)), og 15 12 false (.len false (.t 14)), og 16 12 false (.bin .gtr 0 (.t 15) (.k (.i .i64 6))), o 17 (.pick (.t 12) (.k (.b true)) (.t 16))])) (.cond (.t 17) (.seq (.kp [2] (.ops [o 2 (.mv (.k (.b false)))])) C.ret) C.skip)) (.seq (.kp [1, 3] (.ops [o 18 (.faddr 0 (.t 1)), o 19 (.load none (.t 18)), o 20 (.call 85 [false] [.t 19]), o 3 (.mv (.t 20))])) (.seq (.seq (.kp [1, 3, 4] (.ops [o 4 (.mv (.k (.i .i64 0)))])) (.blk 0 QA.c1)) QA.c0))))
def QA.F : V.Fn := ⟨2, QA.B, [.t 2]⟩
def QaU.B : C := (.seq (.kp [1, 2, 4] (.ops [o 2 (.boxK (.t 0)), o 4 (.alloc [.deep false false 2 [], .deep false false 1 []]), o 5 (.mv (.k (.b false)))])) (.seq (.kp [1, 2, 4, 6] (.ops [o 7 (.load (some 2) (.t 2)), o 8 (.call 48 [false] [.t 7]), o 6 (.alloc [.deep false false 2 [], .deep false false 1 []]), oz none none [] (.store 2 (.t 6) (.t 8))])) (.seq (.kp [2, 4, 6] (.draw (tk [0, 2] (.alt (tk [1, 3, 4, 5, 6, 7] .done) (tk [3] (.alt (tk [1, 4, 5, 6, 7] .done) (tk [4, 1, 5, 6, 7] .done))))) [o 9 (.faddr 1 (.t 6)), o 10 (.load none (.t 9)), o 11 (.mv (.t 1)), o 12 (.call 49 [false] [.t 11]), o 13 (.lit 1 1 [.deep false false 5 []] [(0, .t 12)]), o 14 (.app 1 24 (.t 10) (.t 13)), o 15 (.faddr 1 (.t 6)), oz none none [] (.store 1 (.t 15) (.t 14))])) (.seq (.seq (.kp [2, 4, 6, 18] (.ops [o 16 (.load (some 2) (.t 6)), o 17 (.call 50 [false] [.t 16]), o 18 (.un .not (.t 17))])) (.cond (.t 18) (.seq (.kp [4, 5] (.ops [o 19 (.load (some 2) (.t 2)), o 20 (.call 48 [false] [.t 19]), oz none none [] (.store 2 (.t 4) (.t 20)), o 5 (.mv (.k (.b false)))])) C.ret) C.skip)) (.seq (.kp [4, 5] (.ops [o 21 (.load (some 2) (.t 6)), oz none none [21] (.store 2 (.t 4) (.t 21)), o 5 (.mv (.k (.b true)))])) C.ret)))))
def QaU.F : V.Fn := ⟨3, QaU.B, [.cell 4 (some 2), .t 5]⟩
def Qp.B : C := (.seq (.kp [0] (.ops [o 2 (.mv (.k (.nl 2)))])) (.seq (.seq (.kp [0, 4] (.ops [o 3 (.mv (.t 0)), o 4 (.bin .eql 2 (.t 3) (.k (.nl 2)))])) (.cond (.t 4) (.seq (.kp [2] (.ops [o 2 (.mv (.k (.nl 2)))])) C.ret) C.skip)) (.seq (.kp [2] (.ops [o 5 (.lit 2 0 [.i .i64 0, .i .i64 0] []), o 6 (.mv (.t 0)), o 7 (.app 2 16 (.t 5) (.t 6)), o 2 (.mv (.t 7))])) C.ret)))
def Qp.F : V.Fn := ⟨1, Qp.B, [.t 2]⟩
def Qn.c0 : C := (.seq (.seq (.kp [0, 1] (.ops [o 8 (.mv (.t 1)), o 9 (.mv (.t 0)), o 10 (.cap (.t 9)), o 11 (.mv (.t 0)), o 12 (.len false (.t 11)), o 13 (.bin .sub 0 (.t 10) (.t 12)), o 14 (.bin .sub 0 (.t 8) (.t 13)), o 1 (.mv (.t 14))])) (.seq (.kp [0, 1, 16] (.ops [o 15 (.mv (.t 1)), o 16 (.bin .gtr 0 (.t 15) (.k (.i .i64 0)))])) (.cond (.t 16) (.kp [0] (.ops [o 17 (.mv (.t 0)), o 18 (.mv (.t 0)), o 19 (.cap (.t 18)), o 20 (.slR 5 (.t 17) none (some (.t 19))), o 21 (.mv (.t 1)), o 22 (.appZ 56 [.i .i64 0, .deep false false 1 [], .i .i64 0, .i .i64 0, .i .i64 0] (.k (.undef)) (.t 20) (.t 21)), o 23 (.mv (.t 0)), o 24 (.len false (.t 23)), o 25 (.slR 5 (.t 22) none (some (.t 24))), o 0 (.mv (.t 25))])) C.skip))) (.seq (.kp [4] (.ops [o 26 (.mv (.t 0)), o 4 (.mv (.t 26))])) C.ret))
def Qn.B : C := (.seq (.kp [0, 1] (.ops [o 4 (.mv (.k (.nl 5)))])) (.seq (.jn 1 [0, 1] (.seq (.kp [0, 1, 6] (.ops [o 5 (.mv (.t 1)), o 6 (.bin .lss 0 (.t 5) (.k (.i .i64 0)))])) (.cond (.t 6) (.kp [0, 1] (.ops [o 7 (.ext 999 (.k (.undef))), oz none none [] (.ext 999 (.k (.undef)))])) C.skip))) Qn.c0))
def Qn.F : V.Fn := ⟨1, Qn.B, [.t 4]⟩
def Qa.d3 : C := (.seq (.kp [6, 25, 26, 27, 28] (.ops [o 28 (.bin .lss 0 (.t 27) (.t 26))])) (.seq (.cond (.t 28) C.skip (.exit 2)) (.seq (.blk 3 (.seq (.kp [6, 8, 25, 26, 27] (.ops [o 29 (.iaddr 1 (.t 25) (.t 27)), o 30 (.load none (.t 29)), o 8 (.mv (.t 30))])) (.kp [6, 25, 26, 27] (.ops [o 31 (.mv (.t 6)), o 32 (.mv (.t 8)), oz (some 33) none [32] (.app 5 56 (.t 31) (.t 32)), o 6 (.mv (.t 33))])))) (.kp [6, 25, 26, 27] (.ops [o 34 (.bin .add 0 (.t 27) (.k (.i .i64 1))), o 27 (.mv (.t 34))])))))
def Qa.c3 : C := .loop 1 [6, 25, 26, 27] Qa.d3
def Qa.c2 : C := (.seq (.kp [2] (.ops [o 35 (.mv (.t 6)), o 2 (.mv (.t 35))])) C.ret)
def Qa.c0 : C := (.seq (.kp [0, 6] (.ops [o 23 (.mv (.t 3)), o 24 (.call 112 [true, false] [.k (.nl 5), .t 23]), o 6 (.mv (.t 24))])) (.seq (.seq (.kp [6, 25, 26, 27] (.ops [o 25 (.mv (.t 0)), o 26 (.len false (.t 25)), o 27 (.mv (.k (.i .i64 0)))])) (.blk 2 Qa.c3)) Qa.c2))
def Qa.d1 : C := (.seq (.kp [0, 3, 9, 10, 11, 12] (.ops [o 12 (.bin .lss 0 (.t 11) (.t 10))])) (.seq (.cond (.t 12) C.skip (.exit 0)) (.seq (.blk 1 (.seq (.kp [0, 3, 5, 9, 10, 11] (.ops [o 13 (.iaddr 1 (.t 9) (.t 11)), o 14 (.load none (.t 13)), o 5 (.mv (.t 14))])) (.seq (.kp [0, 3, 9, 10, 11] (.ops [o 15 (.mv (.t 3)), o 16 (.mv (.t 5)), o 17 (.len false (.t 16)), o 18 (.bin .add 0 (.t 15) (.t 17)), o 3 (.mv (.t 18))])) (.seq (.kp [0, 3, 9, 10, 11, 20] (.ops [o 19 (.mv (.t 3)), o 20 (.bin .lss 0 (.t 19) (.k (.i .i64 0)))])) (.cond (.t 20) (.kp [0, 3, 9, 10, 11] (.ops [o 21 (.ext 999 (.k (.undef))), oz none none [] (.ext 999 (.k (.undef)))])) C.skip))))) (.kp [0, 3, 9, 10, 11] (.ops [o 22 (.bin .add 0 (.t 11) (.k (.i .i64 1))), o 11 (.mv (.t 22))])))))
def Qa.c1 : C := .loop 1 [0, 3, 9, 10, 11] Qa.d1
def Qa.B : C := (.seq (.kp [0] (.ops [o 2 (.mv (.k (.nl 5)))])) (.seq (.kp [0, 3] (.ops [o 3 (.mv (.k (.i .i64 0)))])) (.seq (.seq (.kp [0, 3, 9, 10, 11] (.ops [o 9 (.mv (.t 0)), o 10 (.len false (.t 9)), o 11 (.mv (.k (.i .i64 0)))])) (.blk 0 Qa.c1)) Qa.c0)))
def Qa.F : V.Fn := ⟨1, Qa.B, [.t 2]⟩
def Qad.B : C := (.seq (.kp [0] (.ops [o 2 (.mv (.k (.nl 1)))])) (.seq (.seq (.kp [0, 4] (.ops [o 3 (.mv (.t 0)), o 4 (.bin .eql 2 (.t 3) (.k (.nl 1)))])) (.cond (.t 4) (.seq (.kp [2] (.ops [o 2 (.mv (.k (.nl 1)))])) C.ret) C.skip)) (.seq (.kp [2] (.ops [o 5 (.lit 1 0 [.i .i64 0] []), o 6 (.mv (.t 0)), o 7 (.app 1 8 (.t 5) (.t 6)), o 2 (.mv (.t 7))])) C.ret)))
def Qad.F : V.Fn := ⟨1, Qad.B, [.t 2]⟩
def Qbj.B : C := (.seq (.kp [1, 2] (.ops [o 1 (.box 5 (.t 0)), o 2 (.alloc [.i .i64 0, .deep false false 1 [], .i .i64 0, .i .i64 0, .i .i64 0])])) (.seq (.kp [1, 2] (.ops [o 3 (.faddr 1 (.t 1)), o 4 (.load none (.t 3)), o 5 (.call 113 [false] [.t 4]), o 6 (.faddr 1 (.t 1)), oz none none [] (.store 1 (.t 6) (.t 5))])) (.seq (.kp [2] (.ops [o 7 (.load (some 5) (.t 1)), oz none none [7] (.store 5 (.t 2) (.t 7))])) C.ret)))
def Qbj.F : V.Fn := ⟨1, Qbj.B, [.cell 2 (some 5)]⟩
def Q8.c0 : C := (.seq (.kp [4] (.ops [o 24 (.mv (.t 5)), o 4 (.mv (.t 24))])) C.ret)
def Q8.d1 : C := (.seq (.kp [5, 12, 13, 14, 15] (.ops [o 15 (.bin .lss 0 (.t 14) (.t 13))])) (.seq (.cond (.t 15) C.skip (.exit 0)) (.seq (.blk 1 (.seq (.kp [5, 7, 12, 13, 14] (.ops [o 16 (.iaddr 5 (.t 12) (.t 14)), o 17 (.load (some 5) (.t 16)), o 7 (.alloc [.i .i64 0, .deep false false 1 [], .i .i64 0, .i .i64 0, .i .i64 0]), oz none none [17] (.store 5 (.t 7) (.t 17))])) (.kp [5, 12, 13, 14] (.ops [o 18 (.mv (.t 5)), o 19 (.load (some 5) (.t 7)), o 20 (.call 92 [false] [.t 19]), o 21 (.lit 5 1 [.i .i64 0, .deep false false 1 [], .i .i64 0, .i .i64 0, .i .i64 0] [(0, .t 20)]), o 22 (.app 5 56 (.t 18) (.t 21)), o 5 (.mv (.t 22))])))) (.kp [5, 12, 13, 14] (.ops [o 23 (.bin .add 0 (.t 14) (.k (.i .i64 1))), o 14 (.mv (.t 23))])))))
def Q8.c1 : C := .loop 2 [5, 12, 13, 14] Q8.d1
def Q8.B : C := (.seq (.kp [0, 1] (.ops [o 4 (.mv (.k (.nl 5)))])) (.seq (.kp [0, 1, 5] (.ops [o 8 (.lit 5 0 [.i .i64 0, .deep false false 1 [], .i .i64 0, .i .i64 0, .i .i64 0] []), o 5 (.mv (.t 8))])) (.seq (.seq (.kp [5, 12, 13, 14] (.ops [o 9 (.mv (.t 0)), o 10 (.mv (.t 1)), o 11 (.lit 1 2 [.deep false false 5 []] [(0, .t 9), (1, .t 10)]), o 12 (.call 91 [true] [.t 11]), o 13 (.len false (.t 12)), o 14 (.mv (.k (.i .i64 0)))])) (.blk 0 Q8.c1)) Q8.c0)))
def Q8.F : V.Fn := ⟨2, Q8.B, [.t 4]⟩
def QD.c0 : C := (.seq (.kp [2] (.ops [o 25 (.load (some 2) (.t 3)), oz none none [25] (.store 2 (.t 2) (.t 25))])) C.ret)
def QD.d1 : C := (.seq (.kp [2, 3, 11, 12, 13, 14] (.ops [o 14 (.bin .lss 0 (.t 13) (.t 12))])) (.seq (.cond (.t 14) C.skip (.exit 0)) (.seq (.blk 1 (.seq (.kp [2, 3, 5, 11, 12, 13] (.ops [o 15 (.iaddr 1 (.t 11) (.t 13)), o 16 (.load none (.t 15)), o 5 (.mv (.t 16))])) (.kp [2, 3, 11, 12, 13] (.draw (tk [0, 2] (.alt (tk [1, 3, 4, 5, 6, 7] .done) (tk [3] (.alt (tk [1, 4, 5, 6, 7] .done) (tk [4, 1, 5, 6, 7] .done))))) [o 17 (.faddr 1 (.t 3)), o 18 (.load none (.t 17)), o 19 (.mv (.t 5)), o 20 (.call 55 [false, false] [.t 19, .k (.nl 5)]), o 21 (.lit 1 1 [.deep false false 5 []] [(0, .t 20)]), o 22 (.app 1 24 (.t 18) (.t 21)), o 23 (.faddr 1 (.t 3)), oz none none [] (.store 1 (.t 23) (.t 22))])))) (.kp [2, 3, 11, 12, 13] (.ops [o 24 (.bin .add 0 (.t 13) (.k (.i .i64 1))), o 13 (.mv (.t 24))])))))
def QD.c1 : C := .loop 2 [2, 3, 11, 12, 13] QD.d1
def QD.B : C := (.seq (.kp [1, 2] (.ops [o 1 (.boxK (.t 0)), o 2 (.alloc [.deep false false 2 [], .deep false false 1 []])])) (.seq (.kp [1, 2, 3] (.ops [o 6 (.faddr 0 (.t 1)), o 7 (.load none (.t 6)), o 8 (.call 90 [false] [.t 7]), o 9 (.build [.nl 2, .nl 1] [(0, 1, .t 8)]), o 3 (.alloc [.deep false false 2 [], .deep false false 1 []]), oz none none [] (.store 2 (.t 3) (.t 9))])) (.seq (.seq (.kp [2, 3, 11, 12, 13] (.ops [o 10 (.faddr 1 (.t 1)), o 11 (.load none (.t 10)), o 12 (.len false (.t 11)), o 13 (.mv (.k (.i .i64 0)))])) (.blk 0 QD.c1)) QD.c0)))
def QD.F : V.Fn := ⟨2, QD.B, [.cell 2 (some 2)]⟩
def Qaf.B : C := (.seq (.kp [0, 1, 2] (.ops [o 6 (.mv (.k (.b false)))])) (.seq (.kp [6] (.ops [o 7 (.mv (.t 1)), o 8 (.mv (.t 0)), o 9 (.bin .leq 0 (.t 7) (.t 8)), o 10 (.mv (.t 9)), og 11 10 true (.mv (.t 0)), og 12 10 true (.mv (.t 2)), og 13 10 true (.bin .leq 0 (.t 11) (.t 12)), o 14 (.pick (.t 10) (.t 13) (.k (.b false))), o 6 (.mv (.t 14))])) C.ret))
def Qaf.F : V.Fn := ⟨0, Qaf.B, [.t 6]⟩
def QaE.B : C := (.seq (.kp [0] (.ops [o 2 (.mv (.k (.b false)))])) (.seq (.kp [2] (.ops [o 3 (.mv (.t 0)), o 4 (.call 37 [false, false, false] [.t 3, .k (.i .i64 0), .k (.i .i64 5)]), o 2 (.mv (.t 4))])) C.ret))
def QaE.F : V.Fn := ⟨0, QaE.B, [.t 2]⟩
def QaW.B : C := (.seq (.kp [0, 1] (.ops [o 4 (.mv (.k (.b false)))])) (.seq (.seq (.kp [0, 1, 6] (.ops [o 5 (.mv (.t 1)), o 6 (.bin .eql 0 (.t 5) (.k (.i .i64 0)))])) (.cond (.t 6) (.seq (.kp [4] (.ops [o 7 (.mv (.t 0)), o 8 (.iaddr 2 (.t 7) (.k (.i .i64 0))), o 9 (.faddr 1 (.t 8)), o 10 (.load none (.t 9)), o 11 (.bin .eql 0 (.t 10) (.k (.i .i64 0))), o 4 (.mv (.t 11))])) C.ret) C.skip)) (.seq (.kp [4] (.draw (sq 14) [o 12 (.mv (.t 0)), o 13 (.mv (.t 1)), o 14 (.iaddr 2 (.t 12) (.t 13)), o 15 (.faddr 1 (.t 14)), o 16 (.load none (.t 15)), o 17 (.mv (.t 0)), o 18 (.mv (.t 1)), o 19 (.bin .sub 0 (.t 18) (.k (.i .i64 1))), o 20 (.iaddr 2 (.t 17) (.t 19)), o 21 (.faddr 1 (.t 20)), o 22 (.load none (.t 21)), o 23 (.bin .add 0 (.t 22) (.k (.i .i64 1))), o 24 (.call 37 [false, false, false] [.t 16, .k (.i .i64 1), .t 23]), o 4 (.mv (.t 24))])) C.ret)))
def QaW.F : V.Fn := ⟨1, QaW.B, [.t 4]⟩
def QB.c0 : C := (.seq (.kp [2] (.ops [o 2 (.mv (.k (.b true)))])) C.ret)
def QB.d1 : C := (.seq (.kp [0, 9, 10, 11, 12] (.ops [o 12 (.bin .lss 0 (.t 11) (.t 10))])) (.seq (.cond (.t 12) C.skip (.exit 0)) (.seq (.blk 1 (.seq (.kp [0, 3, 4, 9, 10, 11] (.ops [o 13 (.mv (.t 11)), o 14 (.iaddr 2 (.t 9) (.t 11)), o 15 (.load (some 2) (.t 14)), o 4 (.alloc [.i .i64 0, .i .i64 0]), o 3 (.mv (.t 13)), oz none none [] (.store 2 (.t 4) (.t 15))])) (.seq (.kp [0, 9, 10, 11, 31] (.ops [o 16 (.faddr 0 (.t 4)), o 17 (.load none (.t 16)), o 18 (.call 107 [false] [.t 17]), o 19 (.un .not (.t 18)), o 20 (.mv (.t 19)), og 21 20 false (.faddr 1 (.t 4)), og 22 20 false (.load none (.t 21)), og 23 20 false (.call 37 [false, false, false] [.t 22, .k (.i .i64 0), .k (.i .i64 12)]), og 24 20 false (.un .not (.t 23)), o 25 (.pick (.t 20) (.k (.b true)) (.t 24)), o 26 (.mv (.t 25)), og 27 26 false (.mv (.t 0)), og 28 26 false (.mv (.t 3)), og 29 26 false (.call 108 [false, false] [.t 27, .t 28]), og 30 26 false (.un .not (.t 29)), o 31 (.pick (.t 26) (.k (.b true)) (.t 30))])) (.cond (.t 31) (.seq (.kp [2] (.ops [o 2 (.mv (.k (.b false)))])) C.ret) C.skip)))) (.kp [0, 9, 10, 11] (.ops [o 32 (.bin .add 0 (.t 11) (.k (.i .i64 1))), o 11 (.mv (.t 32))])))))
def QB.c1 : C := .loop 1 [0, 9, 10, 11] QB.d1
def QB.B : C := (.seq (.kp [0] (.ops [o 2 (.mv (.k (.b false)))])) (.seq (.seq (.kp [0, 8] (.ops [o 5 (.mv (.t 0)), o 6 (.len false (.t 5)), o 7 (.call 37 [false, false, false] [.t 6, .k (.i .i64 1), .k (.i .i64 24)]), o 8 (.un .not (.t 7))])) (.cond (.t 8) (.seq (.kp [2] (.ops [o 2 (.mv (.k (.b false)))])) C.ret) C.skip)) (.seq (.seq (.kp [0, 9, 10, 11] (.ops [o 9 (.mv (.t 0)), o 10 (.len false (.t 9)), o 11 (.mv (.k (.i .i64 0)))])) (.blk 0 QB.c1)) QB.c0)))
def QB.F : V.Fn := ⟨1, QB.B, [.t 2]⟩
def QaV.B : C := (.seq (.kp [0, 1] (.ops [o 4 (.mv (.k (.b false)))])) (.seq (.kp [4] (.ops [o 5 (.mv (.t 0)), o 6 (.call 99 [false] [.t 5]), o 7 (.mv (.t 6)), og 8 7 true (.mv (.t 1)), og 9 7 true (.mv (.t 0)), og 10 7 true (.len false (.t 9)), og 11 7 true (.bin .sub 0 (.t 10) (.k (.i .i64 1))), og 12 7 true (.call 37 [false, false, false] [.t 8, .k (.i .i64 0), .t 11]), o 13 (.pick (.t 7) (.t 12) (.k (.b false))), o 4 (.mv (.t 13))])) C.ret))
def QaV.F : V.Fn := ⟨1, QaV.B, [.t 4]⟩
def Q9.c0 : C := (.seq (.kp [4] (.ops [o 27 (.mv (.t 5)), o 4 (.mv (.t 27))])) C.ret)
def Q9.d1 : C := (.seq (.seq (.kp [0, 1, 5, 24] (.draw (sq 17) [o 8 (.mv (.t 5)), o 9 (.mv (.t 0)), o 10 (.len false (.t 9)), o 11 (.bin .lss 0 (.t 8) (.t 10)), o 12 (.mv (.t 11)), og 13 12 true (.mv (.t 0)), og 14 12 true (.mv (.t 5)), og 15 12 true (.iaddr 2 (.t 13) (.t 14)), og 16 12 true (.faddr 1 (.t 15)), og 17 12 true (.load none (.t 16)), og 18 12 true (.mv (.t 0)), og 19 12 true (.mv (.t 1)), og 20 12 true (.iaddr 2 (.t 18) (.t 19)), og 21 12 true (.faddr 1 (.t 20)), og 22 12 true (.load none (.t 21)), og 23 12 true (.bin .gtr 0 (.t 17) (.t 22)), o 24 (.pick (.t 12) (.t 23) (.k (.b false)))])) (.cond (.t 24) C.skip (.exit 0))) (.blk 1 (.kp [0, 1, 5] (.ops [o 25 (.mv (.t 5)), o 26 (.bin .add 0 (.t 25) (.k (.i .i64 1))), o 5 (.mv (.t 26))]))))
def Q9.c1 : C := .loop 1 [0, 1, 5] Q9.d1
def Q9.B : C := (.seq (.kp [0, 1] (.ops [o 4 (.mv (.k (.i .i64 0)))])) (.seq (.kp [0, 1, 5] (.ops [o 6 (.mv (.t 1)), o 7 (.bin .add 0 (.t 6) (.k (.i .i64 1))), o 5 (.mv (.t 7))])) (.seq (.blk 0 Q9.c1) Q9.c0)))
def Q9.F : V.Fn := ⟨1, Q9.B, [.t 4]⟩
def QO.c0 : C := (.seq (.kp [4] (.ops [o 38 (.mv (.t 5)), o 4 (.mv (.t 38))])) C.ret)
def QO.d1 : C := (.seq (.seq (.kp [0, 1, 5, 6, 19] (.ops [o 15 (.mv (.t 6)), o 16 (.mv (.t 0)), o 17 (.mv (.t 1)), o 18 (.call 123 [false, false] [.t 16, .t 17]), o 19 (.bin .lss 0 (.t 15) (.t 18))])) (.cond (.t 19) C.skip (.exit 0))) (.seq (.blk 1 (.seq (.kp [0, 1, 5, 6, 33] (.draw (sq 12) [o 22 (.mv (.t 0)), o 23 (.mv (.t 6)), o 24 (.iaddr 2 (.t 22) (.t 23)), o 25 (.faddr 1 (.t 24)), o 26 (.load none (.t 25)), o 27 (.mv (.t 0)), o 28 (.mv (.t 1)), o 29 (.iaddr 2 (.t 27) (.t 28)), o 30 (.faddr 1 (.t 29)), o 31 (.load none (.t 30)), o 32 (.bin .add 0 (.t 31) (.k (.i .i64 1))), o 33 (.bin .eql 0 (.t 26) (.t 32))])) (.cond (.t 33) (.kp [0, 1, 5, 6] (.ops [o 34 (.mv (.t 5)), o 35 (.mv (.t 6)), o 36 (.lit 1 1 [.i .i64 0] [(0, .t 35)]), o 37 (.app 1 8 (.t 34) (.t 36)), o 5 (.mv (.t 37))])) C.skip))) (.kp [0, 1, 5, 6] (.ops [o 20 (.mv (.t 6)), o 21 (.bin .add 0 (.t 20) (.k (.i .i64 1))), o 6 (.mv (.t 21))]))))
def QO.c1 : C := .loop 1 [0, 1, 5, 6] QO.d1
def QO.B : C := (.seq (.kp [0, 1] (.ops [o 4 (.mv (.k (.nl 1)))])) (.seq (.kp [0, 1, 5] (.ops [o 7 (.lit 1 0 [.i .i64 0] []), o 5 (.mv (.t 7))])) (.seq (.seq (.kp [0, 1, 5, 11] (.ops [o 8 (.mv (.t 0)), o 9 (.mv (.t 1)), o 10 (.call 134 [false, false] [.t 8, .t 9]), o 11 (.un .not (.t 10))])) (.cond (.t 11) (.seq (.kp [4] (.ops [o 12 (.mv (.t 5)), o 4 (.mv (.t 12))])) C.ret) C.skip)) (.seq (.seq (.kp [0, 1, 5, 6] (.ops [o 13 (.mv (.t 1)), o 14 (.bin .add 0 (.t 13) (.k (.i .i64 1))), o 6 (.mv (.t 14))])) (.blk 0 QO.c1)) QO.c0))))
def QO.F : V.Fn := ⟨1, QO.B, [.t 4]⟩
def QW.c0 : C := (.seq (.kp [4] (.ops [o 32 (.mv (.t 5)), o 4 (.mv (.t 32))])) C.ret)
def QW.d1 : C := (.seq (.kp [0, 5, 12, 13, 14, 15] (.ops [o 15 (.bin .lss 0 (.t 14) (.t 13))])) (.seq (.cond (.t 15) C.skip (.exit 0)) (.seq (.blk 1 (.seq (.kp [0, 5, 7, 12, 13, 14] (.ops [o 16 (.iaddr 1 (.t 12) (.t 14)), o 17 (.load none (.t 16)), o 7 (.mv (.t 17))])) (.seq (.kp [0, 7, 8, 12, 13, 14] (.ops [o 18 (.mv (.t 0)), o 19 (.mv (.t 5)), o 20 (.call 126 [false, false] [.t 18, .t 19]), o 8 (.mv (.t 20))])) (.seq (.seq (.kp [0, 7, 8, 12, 13, 14, 26] (.ops [o 21 (.mv (.t 7)), o 22 (.mv (.t 8)), o 23 (.len false (.t 22)), o 24 (.bin .sub 0 (.t 23) (.k (.i .i64 1))), o 25 (.call 37 [false, false, false] [.t 21, .k (.i .i64 0), .t 24]), o 26 (.un .not (.t 25))])) (.cond (.t 26) (.seq (.kp [4] (.ops [o 4 (.mv (.k (.i .i64 (-1))))])) C.ret) C.skip)) (.kp [0, 5, 12, 13, 14] (.ops [o 27 (.mv (.t 8)), o 28 (.mv (.t 7)), o 29 (.iaddr 1 (.t 27) (.t 28)), o 30 (.load none (.t 29)), o 5 (.mv (.t 30))])))))) (.kp [0, 5, 12, 13, 14] (.ops [o 31 (.bin .add 0 (.t 14) (.k (.i .i64 1))), o 14 (.mv (.t 31))])))))
def QW.c1 : C := .loop 2 [0, 5, 12, 13, 14] QW.d1
def QW.B : C := (.seq (.kp [0, 1] (.ops [o 4 (.mv (.k (.i .i64 0)))])) (.seq (.seq (.kp [0, 1, 11] (.ops [o 9 (.mv (.t 0)), o 10 (.call 99 [false] [.t 9]), o 11 (.un .not (.t 10))])) (.cond (.t 11) (.seq (.kp [4] (.ops [o 4 (.mv (.k (.i .i64 (-1))))])) C.ret) C.skip)) (.seq (.kp [0, 1, 5] (.ops [o 5 (.mv (.k (.i .i64 0)))])) (.seq (.seq (.kp [0, 5, 12, 13, 14] (.ops [o 12 (.mv (.t 1)), o 13 (.len false (.t 12)), o 14 (.mv (.k (.i .i64 0)))])) (.blk 0 QW.c1)) QW.c0))))
def QW.F : V.Fn := ⟨2, QW.B, [.t 4]⟩
def Qv.c0 : C := (.seq (.blk 3 (.seq (.kp [7, 8, 11, 104] (.ops [o 105 (.mv (.t 0)), o 106 (.len false (.t 105)), o 107 (.bin .eql 0 (.t 106) (.k (.i .i64 24))), o 104 (.mv (.t 107))])) (.cond (.t 104) (.seq (.kp [6, 7, 8] (.ops [o 6 (.mv (.k (.i .i64 6))), o 7 (.mv (.k (.i .i64 0))), o 8 (.mv (.k (.i .i64 0)))])) C.ret) (.seq (.kp [7, 8, 108] (.ops [o 109 (.mv (.t 11)), o 110 (.bin .gtr 0 (.t 109) (.k (.i .i64 12))), o 108 (.mv (.t 110))])) (.cond (.t 108) (.seq (.kp [6, 7, 8] (.ops [o 6 (.mv (.k (.i .i64 7))), o 7 (.mv (.k (.i .i64 0))), o 8 (.mv (.k (.i .i64 0)))])) C.ret) C.skip))))) (.seq (.kp [6, 7, 8] (.ops [o 111 (.mv (.t 7)), o 112 (.mv (.t 8)), o 6 (.mv (.k (.i .i64 0))), o 7 (.mv (.t 111)), o 8 (.mv (.t 112))])) C.ret))
def Qv.d1 : C := (.seq (.kp [0, 7, 8, 11, 92, 93, 94, 95] (.ops [o 95 (.bin .lss 0 (.t 94) (.t 93))])) (.seq (.cond (.t 95) C.skip (.exit 1)) (.seq (.blk 2 (.seq (.kp [0, 7, 8, 11, 13, 92, 93, 94] (.ops [o 96 (.iaddr 2 (.t 92) (.t 94)), o 97 (.load (some 2) (.t 96)), o 13 (.alloc [.i .i64 0, .i .i64 0]), oz none none [] (.store 2 (.t 13) (.t 97))])) (.kp [0, 7, 8, 11, 92, 93, 94] (.ops [o 98 (.mv (.t 11)), o 99 (.faddr 1 (.t 13)), o 100 (.load none (.t 99)), o 101 (.bin .add 0 (.t 100) (.k (.i .i64 1))), o 102 (.mm true [.t 98, .t 101]), o 11 (.mv (.t 102))])))) (.kp [0, 7, 8, 11, 92, 93, 94] (.ops [o 103 (.bin .add 0 (.t 94) (.k (.i .i64 1))), o 94 (.mv (.t 103))])))))
def Qv.c1 : C := .loop 2 [0, 7, 8, 11, 92, 93, 94] Qv.d1
def Qv.B : C := (.seq (.kp [0, 2, 4] (.ops [o 4 (.boxK (.t 1)), o 6 (.mv (.k (.i .i64 0))), o 7 (.mv (.k (.i .i64 0))), o 8 (.mv (.k (.i .i64 0)))])) (.seq (.blk 0 (.seq (.kp [0, 2, 4, 14] (.ops [o 15 (.faddr 0 (.t 4)), o 16 (.load none (.t 15)), o 17 (.call 37 [false, false, false] [.t 16, .k (.i .i64 1), .k (.i .i64 3)]), o 18 (.un .not (.t 17)), o 14 (.mv (.t 18))])) (.cond (.t 14) (.seq (.kp [6, 7, 8] (.ops [o 6 (.mv (.k (.i .i64 1))), o 7 (.mv (.k (.i .i64 0))), o 8 (.mv (.k (.i .i64 0)))])) C.ret) (.seq (.kp [0, 2, 4, 19] (.ops [o 20 (.mv (.t 2)), o 21 (.bin .lss 0 (.t 20) (.k (.i .i64 0))), o 19 (.mv (.t 21))])) (.cond (.t 19) (.seq (.kp [6, 7, 8] (.ops [o 6 (.mv (.k (.i .i64 2))), o 7 (.mv (.k (.i .i64 0))), o 8 (.mv (.k (.i .i64 0)))])) C.ret) (.seq (.kp [0, 2, 4, 22] (.ops [o 23 (.faddr 0 (.t 4)), o 24 (.load none (.t 23)), o 25 (.bin .neq 0 (.t 24) (.k (.i .i64 2))), o 26 (.mv (.t 25)), og 27 26 true (.faddr 2 (.t 4)), og 28 26 true (.load none (.t 27)), og 29 26 true (.call 107 [false] [.t 28]), og 30 26 true (.un .not (.t 29)), o 31 (.pick (.t 26) (.t 30) (.k (.b false))), o 22 (.mv (.t 31))])) (.cond (.t 22) (.seq (.kp [6, 7, 8] (.ops [o 6 (.mv (.k (.i .i64 3))), o 7 (.mv (.k (.i .i64 0))), o 8 (.mv (.k (.i .i64 0)))])) C.ret) (.seq (.kp [0, 2, 4, 32] (.ops [o 33 (.faddr 0 (.t 4)), o 34 (.load none (.t 33)), o 35 (.bin .eql 0 (.t 34) (.k (.i .i64 2))), o 36 (.mv (.t 35)), og 37 36 true (.mv (.t 2)), og 38 36 true (.bin .eql 0 (.t 37) (.k (.i .i64 0))), o 39 (.pick (.t 36) (.t 38) (.k (.b false))), o 32 (.mv (.t 39))])) (.cond (.t 32) (.seq (.kp [6, 7, 8] (.ops [o 6 (.mv (.k (.i .i64 4))), o 7 (.mv (.k (.i .i64 0))), o 8 (.mv (.k (.i .i64 0)))])) C.ret) (.seq (.kp [0, 2, 4, 40] (.ops [o 41 (.faddr 0 (.t 4)), o 42 (.load none (.t 41)), o 43 (.bin .neq 0 (.t 42) (.k (.i .i64 3))), o 40 (.mv (.t 43))])) (.cond (.t 40) (.seq (.kp [6, 7, 8] (.ops [o 6 (.mv (.k (.i .i64 0))), o 7 (.mv (.k (.i .i64 0))), o 8 (.mv (.k (.i .i64 0)))])) C.ret) C.skip))))))))))) (.seq (.kp [0, 2, 4, 9] (.ops [o 44 (.mv (.t 0)), o 45 (.mv (.t 2)), o 46 (.call 126 [false, false] [.t 44, .t 45]), o 9 (.mv (.t 46))])) (.seq (.seq (.kp [0, 2, 4, 9, 63] (.ops [o 47 (.faddr 3 (.t 4)), o 48 (.load none (.t 47)), o 49 (.mv (.t 9)), o 50 (.len false (.t 49)), o 51 (.call 37 [false, false, false] [.t 48, .k (.i .i64 0), .t 50]), o 52 (.un .not (.t 51)), o 53 (.mv (.t 52)), og 54 53 false (.faddr 4 (.t 4)), og 55 53 false (.load none (.t 54)), og 56 53 false (.mv (.t 9)), og 57 53 false (.len false (.t 56)), og 58 53 false (.faddr 3 (.t 4)), og 59 53 false (.load none (.t 58)), og 60 53 false (.bin .sub 0 (.t 57) (.t 59)), og 61 53 false (.call 37 [false, false, false] [.t 55, .k (.i .i64 0), .t 60]), og 62 53 false (.un .not (.t 61)), o 63 (.pick (.t 53) (.k (.b true)) (.t 62))])) (.cond (.t 63) (.seq (.kp [6, 7, 8] (.ops [o 6 (.mv (.k (.i .i64 5))), o 7 (.mv (.k (.i .i64 0))), o 8 (.mv (.k (.i .i64 0)))])) C.ret) C.skip)) (.seq (.kp [0, 2, 4, 10] (.ops [o 64 (.mv (.t 9)), o 65 (.mv (.t 0)), o 66 (.mv (.t 2)), o 67 (.call 123 [false, false] [.t 65, .t 66]), o 68 (.lit 1 1 [.i .i64 0] [(0, .t 67)]), o 69 (.app 1 8 (.t 64) (.t 68)), o 10 (.mv (.t 69))])) (.seq (.kp [0, 2, 7, 8] (.draw (sq 15) [o 70 (.mv (.t 10)), o 71 (.faddr 3 (.t 4)), o 72 (.load none (.t 71)), o 73 (.iaddr 1 (.t 70) (.t 72)), o 74 (.load none (.t 73)), o 75 (.mv (.t 10)), o 76 (.faddr 3 (.t 4)), o 77 (.load none (.t 76)), o 78 (.faddr 4 (.t 4)), o 79 (.load none (.t 78)), o 80 (.bin .add 0 (.t 77) (.t 79)), o 81 (.iaddr 1 (.t 75) (.t 80)), o 82 (.load none (.t 81)), o 7 (.mv (.t 74)), o 8 (.mv (.t 82))])) (.seq (.kp [0, 7, 8, 11] (.ops [o 83 (.mv (.t 0)), o 84 (.mv (.t 2)), o 85 (.iaddr 2 (.t 83) (.t 84)), o 86 (.faddr 1 (.t 85)), o 87 (.load none (.t 86)), o 88 (.bin .add 0 (.t 87) (.k (.i .i64 1))), o 11 (.mv (.t 88))])) (.seq (.seq (.kp [0, 7, 8, 11, 92, 93, 94] (.ops [o 89 (.mv (.t 0)), o 90 (.mv (.t 7)), o 91 (.mv (.t 8)), o 92 (.slR 2 (.t 89) (some (.t 90)) (some (.t 91))), o 93 (.len false (.t 92)), o 94 (.mv (.k (.i .i64 0)))])) (.blk 1 Qv.c1)) Qv.c0))))))))
def Qv.F : V.Fn := ⟨2, Qv.B, [.t 6, .t 7, .t 8]⟩
def Qal.B : C := Qv7 2 16 [.i .i64 0, .i .i64 0]
def Qal.F : V.Fn := QwT 2 16 [.i .i64 0, .i .i64 0]
def Qak.B : C := QvX 2 16 [.i .i64 0, .i .i64 0] 133
def Qak.F : V.Fn := Qwx 2 16 [.i .i64 0, .i .i64 0] 133
def Qh.c0 : C := (.seq (.kp [4, 5] (.ops [o 96 (.mv (.t 6)), o 4 (.mv (.t 96)), o 5 (.mv (.k (.i .i64 0)))])) C.ret)
def Qh.c1 : C := (.kp [6] (.ops [o 91 (.mv (.t 6)), o 92 (.mv (.t 7)), o 93 (.mv (.t 7)), o 94 (.bin .add 0 (.t 93) (.k (.i .i64 1))), o 95 (.call 124 [true, false, false] [.t 91, .t 92, .t 94]), o 6 (.mv (.t 95))]))
def Qh.d2 : C := (.seq (.seq (.kp [0, 6, 7, 11, 80] (.ops [o 76 (.mv (.t 11)), o 77 (.mv (.t 0)), o 78 (.mv (.t 7)), o 79 (.call 123 [false, false] [.t 77, .t 78]), o 80 (.bin .lss 0 (.t 76) (.t 79))])) (.cond (.t 80) C.skip (.exit 3))) (.seq (.blk 4 (.kp [0, 6, 7, 11] (.ops [o 83 (.mv (.t 6)), o 84 (.mv (.t 11)), o 85 (.iaddr 2 (.t 83) (.t 84)), o 86 (.faddr 1 (.t 85)), o 87 (.load none (.t 86)), o 88 (.bin .sub 0 (.t 87) (.k (.i .i64 1))), o 89 (.iaddr 2 (.t 83) (.t 84)), o 90 (.faddr 1 (.t 89)), oz none none [] (.store 1 (.t 90) (.t 88))]))) (.kp [0, 6, 7, 11] (.ops [o 81 (.mv (.t 11)), o 82 (.bin .add 0 (.t 81) (.k (.i .i64 1))), o 11 (.mv (.t 82))]))))
def Qh.c2 : C := .loop 2 [0, 6, 7, 11] Qh.d2
def Qh.c3 : C := (.kp [6] (.draw (sq 14) [o 51 (.mv (.t 6)), o 52 (.mv (.t 9)), o 53 (.faddr 2 (.t 3)), o 54 (.load none (.t 53)), o 55 (.mv (.t 0)), o 56 (.mv (.t 7)), o 57 (.iaddr 2 (.t 55) (.t 56)), o 58 (.faddr 1 (.t 57)), o 59 (.load none (.t 58)), o 60 (.bin .add 0 (.t 59) (.k (.i .i64 1))), o 61 (.build [.i .i64 0, .i .i64 0] [(0, 1, .t 54), (1, 1, .t 60)]), o 62 (.lit 2 1 [.i .i64 0, .i .i64 0] [(0, .t 61)]), o 63 (.call 125 [true, false, true] [.t 51, .t 52, .t 62]), o 6 (.mv (.t 63))]))
def Qh.d4 : C := (.seq (.seq (.kp [0, 3, 6, 7, 9, 10, 12, 40] (.ops [o 38 (.mv (.t 12)), o 39 (.mv (.t 10)), o 40 (.bin .lss 0 (.t 38) (.t 39))])) (.cond (.t 40) C.skip (.exit 1))) (.seq (.blk 2 (.kp [0, 3, 6, 7, 9, 10, 12] (.ops [o 43 (.mv (.t 6)), o 44 (.mv (.t 12)), o 45 (.iaddr 2 (.t 43) (.t 44)), o 46 (.faddr 1 (.t 45)), o 47 (.load none (.t 46)), o 48 (.bin .add 0 (.t 47) (.k (.i .i64 1))), o 49 (.iaddr 2 (.t 43) (.t 44)), o 50 (.faddr 1 (.t 49)), oz none none [] (.store 1 (.t 50) (.t 48))]))) (.kp [0, 3, 6, 7, 9, 10, 12] (.ops [o 41 (.mv (.t 12)), o 42 (.bin .add 0 (.t 41) (.k (.i .i64 1))), o 12 (.mv (.t 42))]))))
def Qh.c4 : C := .loop 2 [0, 3, 6, 7, 9, 10, 12] Qh.d4
def Qh.B : C := (.seq (.kp [0, 3] (.ops [o 3 (.boxK (.t 1)), o 4 (.mv (.k (.nl 2))), o 5 (.mv (.k (.i .i64 0)))])) (.seq (.seq (.kp [0, 3, 15] (.ops [o 13 (.mv (.t 0)), o 14 (.call 99 [false] [.t 13]), o 15 (.un .not (.t 14))])) (.cond (.t 15) (.seq (.kp [4, 5] (.ops [o 16 (.lit 2 0 [.i .i64 0, .i .i64 0] []), o 4 (.mv (.t 16)), o 5 (.mv (.k (.i .i64 2)))])) C.ret) C.skip)) (.seq (.kp [0, 3, 6, 7] (.draw (tk [0, 2, 3] (.alt (tk [1, 4, 5, 6, 7] .done) (tk [4, 1, 5, 6, 7] .done))) [o 17 (.mv (.t 0)), o 18 (.call 90 [false] [.t 17]), o 19 (.mv (.t 0)), o 20 (.faddr 1 (.t 3)), o 21 (.load none (.t 20)), o 22 (.call 121 [false, false] [.t 19, .t 21]), o 6 (.mv (.t 18)), o 7 (.mv (.t 22))])) (.seq (.kp [0, 3, 6, 7, 8, 9, 10] (.ops [o 24 (.mv (.t 0)), o 25 (.load (some 5) (.t 3)), o 26 (.mv (.t 7)), o 27 (.call 122 [false, false, false] [.t 24, .t 25, .t 26]), o 23 (.mv (.t 27)), o 28 (.ext 0 (.t 23)), o 29 (.ext 1 (.t 23)), o 30 (.ext 2 (.t 23)), o 8 (.mv (.t 28)), o 9 (.mv (.t 29)), o 10 (.mv (.t 30))])) (.seq (.seq (.kp [0, 3, 6, 7, 8, 9, 10, 32] (.ops [o 31 (.mv (.t 8)), o 32 (.bin .neq 0 (.t 31) (.k (.i .i64 0)))])) (.cond (.t 32) (.seq (.kp [4, 5] (.ops [o 33 (.mv (.t 6)), o 34 (.mv (.t 8)), o 4 (.mv (.t 33)), o 5 (.mv (.t 34))])) C.ret) C.skip)) (.seq (.seq (.kp [0, 3, 6, 7, 9, 10, 36] (.ops [o 35 (.faddr 0 (.t 3)), o 36 (.load none (.t 35))])) (.blk 0 (.seq (.kp [0, 3, 6, 7, 9, 10, 36, 64] (.ops [o 65 (.bin .eql 0 (.t 36) (.k (.i .i64 1))), o 64 (.mv (.t 65))])) (.cond (.t 64) (.kp [6] (.ops [o 66 (.mv (.t 6)), o 67 (.mv (.t 7)), o 68 (.faddr 2 (.t 3)), o 69 (.load none (.t 68)), o 70 (.iaddr 2 (.t 66) (.t 67)), o 71 (.faddr 0 (.t 70)), oz none none [] (.store 1 (.t 71) (.t 69))])) (.seq (.kp [0, 3, 6, 7, 9, 10, 72] (.ops [o 73 (.bin .eql 0 (.t 36) (.k (.i .i64 2))), o 72 (.mv (.t 73))])) (.cond (.t 72) (.seq (.seq (.kp [0, 6, 7, 11] (.ops [o 74 (.mv (.t 7)), o 75 (.bin .add 0 (.t 74) (.k (.i .i64 1))), o 11 (.mv (.t 75))])) (.blk 3 Qh.c2)) Qh.c1) (.seq (.seq (.kp [0, 3, 6, 7, 9, 10, 12] (.ops [o 37 (.mv (.t 9)), o 12 (.mv (.t 37))])) (.blk 1 Qh.c4)) Qh.c3))))))) Qh.c0))))))
def Qh.F : V.Fn := ⟨2, Qh.B, [.t 4, .t 5]⟩
def QE.c0 : C := (.seq (.kp [4, 5, 6] (.ops [o 38 (.mv (.t 7)), o 39 (.mv (.t 1)), o 40 (.len false (.t 39)), o 4 (.mv (.t 38)), o 5 (.mv (.t 40)), o 6 (.mv (.k (.i .i64 0)))])) C.ret)
def QE.d1 : C := (.seq (.kp [1, 7, 18, 19, 20, 21] (.ops [o 21 (.bin .lss 0 (.t 20) (.t 19))])) (.seq (.cond (.t 21) C.skip (.exit 0)) (.seq (.blk 1 (.seq (.kp [1, 7, 8, 9, 18, 19, 20] (.ops [o 22 (.mv (.t 20)), o 23 (.iaddr 5 (.t 18) (.t 20)), o 24 (.load (some 5) (.t 23)), o 9 (.alloc [.i .i64 0, .deep false false 1 [], .i .i64 0, .i .i64 0, .i .i64 0]), o 8 (.mv (.t 22)), oz none none [24] (.store 5 (.t 9) (.t 24))])) (.seq (.kp [1, 7, 8, 10, 11, 18, 19, 20] (.ops [o 26 (.mv (.t 7)), o 27 (.load (some 5) (.t 9)), o 28 (.call 100 [false, false] [.t 26, .t 27]), o 25 (.mv (.t 28)), o 29 (.ext 0 (.t 25)), o 30 (.ext 1 (.t 25)), o 10 (.mv (.t 29)), o 11 (.mv (.t 30))])) (.seq (.seq (.kp [1, 7, 8, 10, 11, 18, 19, 20, 32] (.ops [o 31 (.mv (.t 11)), o 32 (.bin .neq 0 (.t 31) (.k (.i .i64 0)))])) (.cond (.t 32) (.seq (.kp [4, 5, 6] (.ops [o 33 (.mv (.t 7)), o 34 (.mv (.t 8)), o 35 (.mv (.t 11)), o 4 (.mv (.t 33)), o 5 (.mv (.t 34)), o 6 (.mv (.t 35))])) C.ret) C.skip)) (.kp [1, 7, 18, 19, 20] (.ops [o 36 (.mv (.t 10)), o 7 (.mv (.t 36))])))))) (.kp [1, 7, 18, 19, 20] (.ops [o 37 (.bin .add 0 (.t 20) (.k (.i .i64 1))), o 20 (.mv (.t 37))])))))
def QE.c1 : C := .loop 2 [1, 7, 18, 19, 20] QE.d1
def QE.B : C := (.seq (.kp [0, 1] (.ops [o 4 (.mv (.k (.nl 2))), o 5 (.mv (.k (.i .i64 0))), o 6 (.mv (.k (.i .i64 0)))])) (.seq (.seq (.kp [0, 1, 14] (.ops [o 12 (.mv (.t 0)), o 13 (.call 99 [false] [.t 12]), o 14 (.un .not (.t 13))])) (.cond (.t 14) (.seq (.kp [4, 5, 6] (.ops [o 15 (.lit 2 0 [.i .i64 0, .i .i64 0] []), o 4 (.mv (.t 15)), o 5 (.mv (.k (.i .i64 0))), o 6 (.mv (.k (.i .i64 2)))])) C.ret) C.skip)) (.seq (.kp [1, 7] (.ops [o 16 (.mv (.t 0)), o 17 (.call 90 [false] [.t 16]), o 7 (.mv (.t 17))])) (.seq (.seq (.kp [1, 7, 18, 19, 20] (.ops [o 18 (.mv (.t 1)), o 19 (.len false (.t 18)), o 20 (.mv (.k (.i .i64 0)))])) (.blk 0 QE.c1)) QE.c0))))
def QE.F : V.Fn := ⟨2, QE.B, [.t 4, .t 5, .t 6]⟩
def QaH.B : C := (.seq (.kp [0] (.ops [o 2 (.mv (.k (.b false)))])) (.seq (.kp [2] (.ops [o 3 (.mv (.t 0)), o 4 (.call 37 [false, false, false] [.t 3, .k (.i .i64 0), .k (.i .i64 24)]), o 5 (.un .not (.t 4)), o 2 (.mv (.t 5))])) C.ret))
def QaH.F : V.Fn := ⟨0, QaH.B, [.t 2]⟩
def Qi.c0 : C := (.seq (.kp [4] (.ops [o 4 (.mv (.k (.i .i64 (-1))))])) C.ret)
def Qi.d1 : C := (.seq (.kp [0, 1, 7, 8, 9] (.ops [o 9 (.bin .lss 0 (.t 8) (.t 7))])) (.seq (.cond (.t 9) C.skip (.exit 0)) (.seq (.blk 1 (.seq (.kp [0, 1, 5, 7, 8] (.ops [o 10 (.mv (.t 8)), o 5 (.mv (.t 10))])) (.seq (.kp [0, 1, 5, 7, 8, 16] (.ops [o 11 (.mv (.t 1)), o 12 (.mv (.t 0)), o 13 (.mv (.t 5)), o 14 (.iaddr 1 (.t 12) (.t 13)), o 15 (.load none (.t 14)), o 16 (.callv (.t 11) [] [.t 15])])) (.cond (.t 16) (.seq (.kp [4] (.ops [o 17 (.mv (.t 5)), o 4 (.mv (.t 17))])) C.ret) C.skip)))) (.kp [0, 1, 7, 8] (.ops [o 18 (.bin .add 0 (.t 8) (.k (.i .i64 1))), o 8 (.mv (.t 18))])))))
def Qi.c1 : C := .loop 5 [0, 1, 7, 8] Qi.d1
def Qi.B : C := (.seq (.kp [0, 1] (.ops [o 4 (.mv (.k (.i .i64 0)))])) (.seq (.seq (.kp [0, 1, 7, 8] (.ops [o 6 (.mv (.t 0)), o 7 (.len false (.t 6)), o 8 (.mv (.k (.i .i64 0)))])) (.blk 0 Qi.c1)) Qi.c0))
def Qi.F : V.Fn := ⟨5, Qi.B, [.t 4]⟩
def Qac.B : C := (.seq (.kp [0, 1] (.ops [o 4 (.mv (.k (.b false)))])) (.seq (.kp [4] (.ops [o 5 (.mv (.t 0)), o 6 (.mv (.t 1)), o 7 (.call 139 [false, false] [.t 5, .t 6]), o 8 (.bin .geq 0 (.t 7) (.k (.i .i64 0))), o 4 (.mv (.t 8))])) C.ret))
def Qac.F : V.Fn := ⟨5, Qac.B, [.t 4]⟩
def QbB.B : C := (.seq (.kp [1] (.ops [o 1 (.boxK (.t 0)), o 2 (.mv (.k (.b false)))])) (.seq (.seq (.kp [1, 11] (.ops [o 3 (.faddr 1 (.t 1)), o 4 (.load none (.t 3)), o 5 (.len false (.t 4)), o 6 (.bin .gtr 0 (.t 5) (.k (.i .i64 12))), o 7 (.mv (.t 6)), og 8 7 false (.faddr 1 (.t 1)), og 9 7 false (.load none (.t 8)), og 10 7 false (.call 136 [false, false] [.t 9, .k (.fn 137 [])]), o 11 (.pick (.t 7) (.k (.b true)) (.t 10))])) (.cond (.t 11) (.seq (.kp [2] (.ops [o 2 (.mv (.k (.b false)))])) C.ret) C.skip)) (.seq (.seq (.kp [1, 13] (.ops [o 12 (.faddr 0 (.t 1)), o 13 (.load none (.t 12))])) (.blk 0 (.seq (.kp [1, 13, 14] (.ops [o 15 (.bin .eql 0 (.t 13) (.k (.i .i64 1))), o 14 (.mv (.t 15))])) (.cond (.t 14) (.seq (.kp [2] (.ops [o 16 (.faddr 2 (.t 1)), o 17 (.load none (.t 16)), o 18 (.call 107 [false] [.t 17]), o 19 (.mv (.t 18)), og 20 19 true (.faddr 3 (.t 1)), og 21 19 true (.load none (.t 20)), og 22 19 true (.bin .eql 0 (.t 21) (.k (.i .i64 0))), o 23 (.pick (.t 19) (.t 22) (.k (.b false))), o 24 (.mv (.t 23)), og 25 24 true (.faddr 4 (.t 1)), og 26 24 true (.load none (.t 25)), og 27 24 true (.bin .eql 0 (.t 26) (.k (.i .i64 0))), o 28 (.pick (.t 24) (.t 27) (.k (.b false))), o 2 (.mv (.t 28))])) C.ret) (.seq (.kp [1, 13, 29] (.ops [o 30 (.bin .eql 0 (.t 13) (.k (.i .i64 2))), o 29 (.mv (.t 30))])) (.cond (.t 29) (.seq (.kp [2] (.ops [o 31 (.faddr 2 (.t 1)), o 32 (.load none (.t 31)), o 33 (.bin .eql 0 (.t 32) (.k (.i .i64 0))), o 34 (.mv (.t 33)), og 35 34 true (.faddr 3 (.t 1)), og 36 34 true (.load none (.t 35)), og 37 34 true (.bin .eql 0 (.t 36) (.k (.i .i64 0))), o 38 (.pick (.t 34) (.t 37) (.k (.b false))), o 39 (.mv (.t 38)), og 40 39 true (.faddr 4 (.t 1)), og 41 39 true (.load none (.t 40)), og 42 39 true (.bin .eql 0 (.t 41) (.k (.i .i64 0))), o 43 (.pick (.t 39) (.t 42) (.k (.b false))), o 2 (.mv (.t 43))])) C.ret) (.seq (.kp [1, 44] (.ops [o 45 (.bin .eql 0 (.t 13) (.k (.i .i64 3))), o 44 (.mv (.t 45))])) (.cond (.t 44) (.seq (.kp [2] (.ops [o 46 (.faddr 2 (.t 1)), o 47 (.load none (.t 46)), o 48 (.call 107 [false] [.t 47]), o 49 (.mv (.t 48)), og 50 49 true (.faddr 3 (.t 1)), og 51 49 true (.load none (.t 50)), og 52 49 true (.call 37 [false, false, false] [.t 51, .k (.i .i64 0), .k (.i .i64 24)]), o 53 (.pick (.t 49) (.t 52) (.k (.b false))), o 54 (.mv (.t 53)), og 55 54 true (.faddr 4 (.t 1)), og 56 54 true (.load none (.t 55)), og 57 54 true (.call 37 [false, false, false] [.t 56, .k (.i .i64 0), .k (.i .i64 24)]), o 58 (.pick (.t 54) (.t 57) (.k (.b false))), o 2 (.mv (.t 58))])) C.ret) C.skip)))))))) (.seq (.kp [2] (.ops [o 2 (.mv (.k (.b false)))])) C.ret))))
def QbB.F : V.Fn := ⟨1, QbB.B, [.t 2]⟩
def Qau.B : C := (.seq (.kp [1] (.ops [o 1 (.boxK (.t 0)), o 2 (.mv (.k (.b false)))])) (.seq (.kp [2] (.ops [o 3 (.load (some 5) (.t 1)), o 4 (.call 130 [false] [.t 3]), o 5 (.un .not (.t 4)), o 2 (.mv (.t 5))])) C.ret))
def Qau.F : V.Fn := ⟨1, Qau.B, [.t 2]⟩
def Qd.c0 : C := (.seq (.kp [4] (.ops [o 4 (.mv (.k (.i .i64 (-1))))])) C.ret)
def Qd.d1 : C := (.seq (.kp [0, 1, 7, 8, 9] (.ops [o 9 (.bin .lss 0 (.t 8) (.t 7))])) (.seq (.cond (.t 9) C.skip (.exit 0)) (.seq (.blk 1 (.seq (.kp [0, 1, 5, 7, 8] (.ops [o 10 (.mv (.t 8)), o 5 (.mv (.t 10))])) (.seq (.kp [0, 1, 5, 7, 8, 16] (.ops [o 11 (.mv (.t 1)), o 12 (.mv (.t 0)), o 13 (.mv (.t 5)), o 14 (.iaddr 5 (.t 12) (.t 13)), o 15 (.load (some 5) (.t 14)), o 16 (.callv (.t 11) [] [.t 15])])) (.cond (.t 16) (.seq (.kp [4] (.ops [o 17 (.mv (.t 5)), o 4 (.mv (.t 17))])) C.ret) C.skip)))) (.kp [0, 1, 7, 8] (.ops [o 18 (.bin .add 0 (.t 8) (.k (.i .i64 1))), o 8 (.mv (.t 18))])))))
def Qd.c1 : C := .loop 5 [0, 1, 7, 8] Qd.d1
def Qd.B : C := (.seq (.kp [0, 1] (.ops [o 4 (.mv (.k (.i .i64 0)))])) (.seq (.seq (.kp [0, 1, 7, 8] (.ops [o 6 (.mv (.t 0)), o 7 (.len false (.t 6)), o 8 (.mv (.k (.i .i64 0)))])) (.blk 0 Qd.c1)) Qd.c0))
def Qd.F : V.Fn := ⟨5, Qd.B, [.t 4]⟩
def QT.B : C := (.seq (.kp [0, 1] (.ops [o 4 (.mv (.k (.b false)))])) (.seq (.kp [4] (.ops [o 5 (.mv (.t 0)), o 6 (.mv (.t 1)), o 7 (.call 135 [false, false] [.t 5, .t 6]), o 8 (.bin .geq 0 (.t 7) (.k (.i .i64 0))), o 4 (.mv (.t 8))])) C.ret))
def QT.F : V.Fn := ⟨5, QT.B, [.t 4]⟩
def QaO.B : C := (.seq (.kp [0] (.ops [o 2 (.mv (.k (.b false)))])) (.seq (.kp [2] (.ops [o 3 (.mv (.t 0)), o 4 (.len false (.t 3)), o 5 (.bin .leq 0 (.t 4) (.k (.i .i64 60))), o 6 (.mv (.t 5)), og 7 6 true (.mv (.t 0)), og 8 6 true (.call 128 [false, false] [.t 7, .k (.fn 129 [])]), og 9 6 true (.un .not (.t 8)), o 10 (.pick (.t 6) (.t 9) (.k (.b false))), o 2 (.mv (.t 10))])) C.ret))
def QaO.F : V.Fn := ⟨1, QaO.B, [.t 2]⟩
def Qo.c0 : C := (.seq (.kp [2, 3] (.ops [o 54 (.mv (.t 4)), o 2 (.mv (.t 54)), o 3 (.mv (.k (.b true)))])) C.ret)
def Qo.d1 : C := (.seq (.kp [4, 25, 26, 27, 28] (.ops [o 28 (.bin .lss 0 (.t 27) (.t 26))])) (.seq (.cond (.t 28) C.skip (.exit 0)) (.seq (.blk 1 (.seq (.kp [4, 5, 6, 25, 26, 27] (.ops [o 29 (.mv (.t 27)), o 30 (.iaddr 1 (.t 25) (.t 27)), o 31 (.load none (.t 30)), o 5 (.mv (.t 29)), o 6 (.mv (.t 31))])) (.seq (.kp [4, 6, 7, 9, 25, 26, 27] (.ops [o 33 (.mv (.t 4)), o 34 (.mv (.t 5)), o 35 (.iaddr 1 (.t 33) (.t 34)), o 36 (.load none (.t 35)), o 37 (.mv (.t 6)), o 38 (.call 79 [false, false] [.t 36, .t 37]), o 32 (.mv (.t 38)), o 39 (.ext 0 (.t 32)), o 40 (.ext 1 (.t 32)), o 41 (.ext 2 (.t 32)), o 7 (.mv (.t 39)), o 8 (.mv (.t 40)), o 9 (.mv (.t 41))])) (.seq (.seq (.kp [4, 7, 25, 26, 27, 48] (.ops [o 42 (.mv (.t 9)), o 43 (.bin .neq 0 (.t 42) (.k (.i .i64 0))), o 44 (.mv (.t 43)), og 45 44 false (.mv (.t 6)), og 46 44 false (.call 114 [false] [.t 45]), og 47 44 false (.un .not (.t 46)), o 48 (.pick (.t 44) (.k (.b true)) (.t 47))])) (.cond (.t 48) (.seq (.kp [2, 3] (.ops [o 2 (.mv (.k (.nl 1))), o 3 (.mv (.k (.b false)))])) C.ret) C.skip)) (.kp [4, 25, 26, 27] (.ops [o 49 (.mv (.t 4)), o 50 (.mv (.t 7)), o 51 (.lit 1 1 [.deep false false 2 []] [(0, .t 50)]), o 52 (.app 1 24 (.t 49) (.t 51)), o 4 (.mv (.t 52))])))))) (.kp [4, 25, 26, 27] (.ops [o 53 (.bin .add 0 (.t 27) (.k (.i .i64 1))), o 27 (.mv (.t 53))])))))
def Qo.c1 : C := .loop 2 [4, 25, 26, 27] Qo.d1
def Qo.B : C := (.seq (.kp [1] (.ops [o 1 (.boxK (.t 0)), o 2 (.mv (.k (.nl 1))), o 3 (.mv (.k (.b false)))])) (.seq (.seq (.kp [1, 19] (.ops [o 10 (.faddr 0 (.t 1)), o 11 (.load none (.t 10)), o 12 (.call 99 [false] [.t 11]), o 13 (.un .not (.t 12)), o 14 (.mv (.t 13)), og 15 14 false (.faddr 1 (.t 1)), og 16 14 false (.load none (.t 15)), og 17 14 false (.len false (.t 16)), og 18 14 false (.bin .gtr 0 (.t 17) (.k (.i .i64 6))), o 19 (.pick (.t 14) (.k (.b true)) (.t 18))])) (.cond (.t 19) (.seq (.kp [2, 3] (.ops [o 2 (.mv (.k (.nl 1))), o 3 (.mv (.k (.b false)))])) C.ret) C.skip)) (.seq (.kp [1, 4] (.ops [o 20 (.faddr 0 (.t 1)), o 21 (.load none (.t 20)), o 22 (.call 90 [false] [.t 21]), o 23 (.lit 1 1 [.deep false false 2 []] [(0, .t 22)]), o 4 (.mv (.t 23))])) (.seq (.seq (.kp [4, 25, 26, 27] (.ops [o 24 (.faddr 1 (.t 1)), o 25 (.load none (.t 24)), o 26 (.len false (.t 25)), o 27 (.mv (.k (.i .i64 0)))])) (.blk 0 Qo.c1)) Qo.c0))))
def Qo.F : V.Fn := ⟨2, Qo.B, [.t 2, .t 3]⟩
def QaL.B : C := (.seq (.kp [1] (.ops [o 1 (.boxK (.t 0)), o 2 (.mv (.k (.b false)))])) (.seq (.kp [4] (.ops [o 6 (.load (some 2) (.t 1)), o 7 (.call 93 [false] [.t 6]), o 5 (.mv (.t 7)), o 8 (.ext 0 (.t 5)), o 9 (.ext 1 (.t 5)), o 3 (.mv (.t 8)), o 4 (.mv (.t 9))])) (.seq (.kp [2] (.ops [o 10 (.mv (.t 4)), o 2 (.mv (.t 10))])) C.ret)))
def QaL.F : V.Fn := ⟨2, QaL.B, [.t 2]⟩
def QaX.B : C := (.seq (.kp [1, 2, 4] (.ops [o 2 (.boxK (.t 0)), o 4 (.alloc [.deep false false 2 [], .deep false false 1 []]), o 5 (.mv (.k (.b false)))])) (.seq (.kp [1, 2, 4, 6] (.ops [o 7 (.load (some 2) (.t 2)), o 8 (.call 54 [false] [.t 7]), o 6 (.alloc [.deep false false 2 [], .deep false false 1 []]), oz none none [] (.store 2 (.t 6) (.t 8))])) (.seq (.kp [2, 4, 6] (.draw (tk [0, 2] (.alt (tk [1, 3, 4, 5, 6, 7] .done) (tk [3] (.alt (tk [1, 4, 5, 6, 7] .done) (tk [4, 1, 5, 6, 7] .done))))) [o 9 (.faddr 1 (.t 6)), o 10 (.load none (.t 9)), o 11 (.mv (.t 1)), o 12 (.call 55 [false, false] [.t 11, .k (.nl 5)]), o 13 (.lit 1 1 [.deep false false 5 []] [(0, .t 12)]), o 14 (.app 1 24 (.t 10) (.t 13)), o 15 (.faddr 1 (.t 6)), oz none none [] (.store 1 (.t 15) (.t 14))])) (.seq (.seq (.kp [2, 4, 6, 18] (.ops [o 16 (.load (some 2) (.t 6)), o 17 (.call 56 [false] [.t 16]), o 18 (.un .not (.t 17))])) (.cond (.t 18) (.seq (.kp [4, 5] (.ops [o 19 (.load (some 2) (.t 2)), o 20 (.call 54 [false] [.t 19]), oz none none [] (.store 2 (.t 4) (.t 20)), o 5 (.mv (.k (.b false)))])) C.ret) C.skip)) (.seq (.kp [4, 5] (.ops [o 21 (.load (some 2) (.t 6)), oz none none [21] (.store 2 (.t 4) (.t 21)), o 5 (.mv (.k (.b true)))])) C.ret)))))
def QaX.F : V.Fn := ⟨3, QaX.B, [.cell 4 (some 2), .t 5]⟩
def Qbi.B : C := (.seq (.kp [2, 3] (.ops [o 2 (.boxK (.t 0)), o 3 (.boxK (.t 1)), o 4 (.mv (.k (.b false)))])) (.seq (.seq (.kp [2, 3, 9] (.ops [o 5 (.faddr 0 (.t 2)), o 6 (.load none (.t 5)), o 7 (.faddr 0 (.t 3)), o 8 (.load none (.t 7)), o 9 (.bin .neq 0 (.t 6) (.t 8))])) (.cond (.t 9) (.seq (.kp [4] (.ops [o 4 (.mv (.k (.b false)))])) C.ret) C.skip)) (.seq (.seq (.kp [14] (.ops [o 10 (.faddr 1 (.t 2)), o 11 (.load none (.t 10)), o 12 (.faddr 1 (.t 3)), o 13 (.load none (.t 12)), o 14 (.bin .neq 0 (.t 11) (.t 13))])) (.cond (.t 14) (.seq (.kp [4] (.ops [o 4 (.mv (.k (.b false)))])) C.ret) C.skip)) (.seq (.kp [4] (.ops [o 4 (.mv (.k (.b true)))])) C.ret))))
def Qbi.F : V.Fn := ⟨0, Qbi.B, [.t 4]⟩
def QS.c0 : C := (.seq (.kp [4] (.ops [o 4 (.mv (.k (.b true)))])) C.ret)
def QS.d1 : C := (.seq (.seq (.kp [0, 1, 5, 14] (.ops [o 11 (.mv (.t 5)), o 12 (.mv (.t 0)), o 13 (.len false (.t 12)), o 14 (.bin .lss 0 (.t 11) (.t 13))])) (.cond (.t 14) C.skip (.exit 0))) (.seq (.blk 1 (.seq (.kp [0, 1, 5, 26] (.draw (sq 10) [o 17 (.mv (.t 0)), o 18 (.mv (.t 5)), o 19 (.iaddr 2 (.t 17) (.t 18)), o 20 (.load (some 2) (.t 19)), o 21 (.mv (.t 1)), o 22 (.mv (.t 5)), o 23 (.iaddr 2 (.t 21) (.t 22)), o 24 (.load (some 2) (.t 23)), o 25 (.call 94 [false, false] [.t 20, .t 24]), o 26 (.un .not (.t 25))])) (.cond (.t 26) (.seq (.kp [4] (.ops [o 4 (.mv (.k (.b false)))])) C.ret) C.skip))) (.kp [0, 1, 5] (.ops [o 15 (.mv (.t 5)), o 16 (.bin .add 0 (.t 15) (.k (.i .i64 1))), o 5 (.mv (.t 16))]))))
def QS.c1 : C := .loop 2 [0, 1, 5] QS.d1
def QS.B : C := (.seq (.kp [0, 1] (.ops [o 4 (.mv (.k (.b false)))])) (.seq (.seq (.kp [0, 1, 10] (.ops [o 6 (.mv (.t 0)), o 7 (.len false (.t 6)), o 8 (.mv (.t 1)), o 9 (.len false (.t 8)), o 10 (.bin .neq 0 (.t 7) (.t 9))])) (.cond (.t 10) (.seq (.kp [4] (.ops [o 4 (.mv (.k (.b false)))])) C.ret) C.skip)) (.seq (.seq (.kp [0, 1, 5] (.ops [o 5 (.mv (.k (.i .i64 0)))])) (.blk 0 QS.c1)) QS.c0)))
def QS.F : V.Fn := ⟨2, QS.B, [.t 4]⟩
def Q6.c0 : C := (.seq (.kp [4] (.ops [o 4 (.mv (.k (.b true)))])) C.ret)
def Q6.d1 : C := (.seq (.seq (.kp [0, 1, 5, 14] (.ops [o 11 (.mv (.t 5)), o 12 (.mv (.t 0)), o 13 (.len false (.t 12)), o 14 (.bin .lss 0 (.t 11) (.t 13))])) (.cond (.t 14) C.skip (.exit 0))) (.seq (.blk 1 (.seq (.kp [0, 1, 5, 25] (.draw (sq 9) [o 17 (.mv (.t 0)), o 18 (.mv (.t 5)), o 19 (.iaddr 1 (.t 17) (.t 18)), o 20 (.load none (.t 19)), o 21 (.mv (.t 1)), o 22 (.mv (.t 5)), o 23 (.iaddr 1 (.t 21) (.t 22)), o 24 (.load none (.t 23)), o 25 (.bin .neq 0 (.t 20) (.t 24))])) (.cond (.t 25) (.seq (.kp [4] (.ops [o 4 (.mv (.k (.b false)))])) C.ret) C.skip))) (.kp [0, 1, 5] (.ops [o 15 (.mv (.t 5)), o 16 (.bin .add 0 (.t 15) (.k (.i .i64 1))), o 5 (.mv (.t 16))]))))
def Q6.c1 : C := .loop 2 [0, 1, 5] Q6.d1
def Q6.B : C := (.seq (.kp [0, 1] (.ops [o 4 (.mv (.k (.b false)))])) (.seq (.seq (.kp [0, 1, 10] (.ops [o 6 (.mv (.t 0)), o 7 (.len false (.t 6)), o 8 (.mv (.t 1)), o 9 (.len false (.t 8)), o 10 (.bin .neq 0 (.t 7) (.t 9))])) (.cond (.t 10) (.seq (.kp [4] (.ops [o 4 (.mv (.k (.b false)))])) C.ret) C.skip)) (.seq (.seq (.kp [0, 1, 5] (.ops [o 5 (.mv (.k (.i .i64 0)))])) (.blk 0 Q6.c1)) Q6.c0)))
def Q6.F : V.Fn := ⟨2, Q6.B, [.t 4]⟩
def QbE.B : C := (.seq (.kp [2, 3] (.ops [o 2 (.boxK (.t 0)), o 3 (.boxK (.t 1)), o 4 (.mv (.k (.b false)))])) (.seq (.seq (.kp [2, 3, 9] (.ops [o 5 (.faddr 0 (.t 2)), o 6 (.load none (.t 5)), o 7 (.faddr 0 (.t 3)), o 8 (.load none (.t 7)), o 9 (.bin .neq 0 (.t 6) (.t 8))])) (.cond (.t 9) (.seq (.kp [4] (.ops [o 4 (.mv (.k (.b false)))])) C.ret) C.skip)) (.seq (.seq (.kp [2, 3, 15] (.ops [o 10 (.faddr 1 (.t 2)), o 11 (.load none (.t 10)), o 12 (.faddr 1 (.t 3)), o 13 (.load none (.t 12)), o 14 (.call 95 [false, false] [.t 11, .t 13]), o 15 (.un .not (.t 14))])) (.cond (.t 15) (.seq (.kp [4] (.ops [o 4 (.mv (.k (.b false)))])) C.ret) C.skip)) (.seq (.seq (.kp [2, 3, 20] (.ops [o 16 (.faddr 2 (.t 2)), o 17 (.load none (.t 16)), o 18 (.faddr 2 (.t 3)), o 19 (.load none (.t 18)), o 20 (.bin .neq 0 (.t 17) (.t 19))])) (.cond (.t 20) (.seq (.kp [4] (.ops [o 4 (.mv (.k (.b false)))])) C.ret) C.skip)) (.seq (.seq (.kp [2, 3, 25] (.ops [o 21 (.faddr 3 (.t 2)), o 22 (.load none (.t 21)), o 23 (.faddr 3 (.t 3)), o 24 (.load none (.t 23)), o 25 (.bin .neq 0 (.t 22) (.t 24))])) (.cond (.t 25) (.seq (.kp [4] (.ops [o 4 (.mv (.k (.b false)))])) C.ret) C.skip)) (.seq (.seq (.kp [30] (.ops [o 26 (.faddr 4 (.t 2)), o 27 (.load none (.t 26)), o 28 (.faddr 4 (.t 3)), o 29 (.load none (.t 28)), o 30 (.bin .neq 0 (.t 27) (.t 29))])) (.cond (.t 30) (.seq (.kp [4] (.ops [o 4 (.mv (.k (.b false)))])) C.ret) C.skip)) (.seq (.kp [4] (.ops [o 4 (.mv (.k (.b true)))])) C.ret)))))))
def QbE.F : V.Fn := ⟨2, QbE.B, [.t 4]⟩
def Qag.c0 : C := (.seq (.kp [4] (.ops [o 4 (.mv (.k (.b true)))])) C.ret)
def Qag.d1 : C := (.seq (.seq (.kp [0, 1, 5, 14] (.ops [o 11 (.mv (.t 5)), o 12 (.mv (.t 0)), o 13 (.len false (.t 12)), o 14 (.bin .lss 0 (.t 11) (.t 13))])) (.cond (.t 14) C.skip (.exit 0))) (.seq (.blk 1 (.seq (.kp [0, 1, 5, 26] (.draw (sq 10) [o 17 (.mv (.t 0)), o 18 (.mv (.t 5)), o 19 (.iaddr 5 (.t 17) (.t 18)), o 20 (.load (some 5) (.t 19)), o 21 (.mv (.t 1)), o 22 (.mv (.t 5)), o 23 (.iaddr 5 (.t 21) (.t 22)), o 24 (.load (some 5) (.t 23)), o 25 (.call 59 [false, false] [.t 20, .t 24]), o 26 (.un .not (.t 25))])) (.cond (.t 26) (.seq (.kp [4] (.ops [o 4 (.mv (.k (.b false)))])) C.ret) C.skip))) (.kp [0, 1, 5] (.ops [o 15 (.mv (.t 5)), o 16 (.bin .add 0 (.t 15) (.k (.i .i64 1))), o 5 (.mv (.t 16))]))))
def Qag.c1 : C := .loop 2 [0, 1, 5] Qag.d1
def Qag.B : C := (.seq (.kp [0, 1] (.ops [o 4 (.mv (.k (.b false)))])) (.seq (.seq (.kp [0, 1, 10] (.ops [o 6 (.mv (.t 0)), o 7 (.len false (.t 6)), o 8 (.mv (.t 1)), o 9 (.len false (.t 8)), o 10 (.bin .neq 0 (.t 7) (.t 9))])) (.cond (.t 10) (.seq (.kp [4] (.ops [o 4 (.mv (.k (.b false)))])) C.ret) C.skip)) (.seq (.seq (.kp [0, 1, 5] (.ops [o 5 (.mv (.k (.i .i64 0)))])) (.blk 0 Qag.c1)) Qag.c0)))
def Qag.F : V.Fn := ⟨2, Qag.B, [.t 4]⟩
def Q5.c0 : C := (.seq (.kp [4] (.ops [o 4 (.mv (.k (.b true)))])) C.ret)
def Q5.d1 : C := (.seq (.seq (.kp [0, 1, 5, 14] (.ops [o 11 (.mv (.t 5)), o 12 (.mv (.t 0)), o 13 (.len false (.t 12)), o 14 (.bin .lss 0 (.t 11) (.t 13))])) (.cond (.t 14) C.skip (.exit 0))) (.seq (.blk 1 (.seq (.kp [0, 1, 5, 26] (.draw (sq 10) [o 17 (.mv (.t 0)), o 18 (.mv (.t 5)), o 19 (.iaddr 1 (.t 17) (.t 18)), o 20 (.load none (.t 19)), o 21 (.mv (.t 1)), o 22 (.mv (.t 5)), o 23 (.iaddr 1 (.t 21) (.t 22)), o 24 (.load none (.t 23)), o 25 (.call 26 [false, false] [.t 20, .t 24]), o 26 (.un .not (.t 25))])) (.cond (.t 26) (.seq (.kp [4] (.ops [o 4 (.mv (.k (.b false)))])) C.ret) C.skip))) (.kp [0, 1, 5] (.ops [o 15 (.mv (.t 5)), o 16 (.bin .add 0 (.t 15) (.k (.i .i64 1))), o 5 (.mv (.t 16))]))))
def Q5.c1 : C := .loop 2 [0, 1, 5] Q5.d1
def Q5.B : C := (.seq (.kp [0, 1] (.ops [o 4 (.mv (.k (.b false)))])) (.seq (.seq (.kp [0, 1, 10] (.ops [o 6 (.mv (.t 0)), o 7 (.len false (.t 6)), o 8 (.mv (.t 1)), o 9 (.len false (.t 8)), o 10 (.bin .neq 0 (.t 7) (.t 9))])) (.cond (.t 10) (.seq (.kp [4] (.ops [o 4 (.mv (.k (.b false)))])) C.ret) C.skip)) (.seq (.seq (.kp [0, 1, 5] (.ops [o 5 (.mv (.k (.i .i64 0)))])) (.blk 0 Q5.c1)) Q5.c0)))
def Q5.F : V.Fn := ⟨2, Q5.B, [.t 4]⟩
def QaR.B : C := (.seq (.kp [2, 3] (.ops [o 2 (.boxK (.t 0)), o 3 (.boxK (.t 1)), o 4 (.mv (.k (.b false)))])) (.seq (.seq (.kp [2, 3, 10] (.ops [o 5 (.faddr 0 (.t 2)), o 6 (.load none (.t 5)), o 7 (.faddr 0 (.t 3)), o 8 (.load none (.t 7)), o 9 (.call 57 [false, false] [.t 6, .t 8]), o 10 (.un .not (.t 9))])) (.cond (.t 10) (.seq (.kp [4] (.ops [o 4 (.mv (.k (.b false)))])) C.ret) C.skip)) (.seq (.seq (.kp [16] (.ops [o 11 (.faddr 1 (.t 2)), o 12 (.load none (.t 11)), o 13 (.faddr 1 (.t 3)), o 14 (.load none (.t 13)), o 15 (.call 58 [false, false] [.t 12, .t 14]), o 16 (.un .not (.t 15))])) (.cond (.t 16) (.seq (.kp [4] (.ops [o 4 (.mv (.k (.b false)))])) C.ret) C.skip)) (.seq (.kp [4] (.ops [o 4 (.mv (.k (.b true)))])) C.ret))))
def QaR.F : V.Fn := ⟨4, QaR.B, [.t 4]⟩
def QF.c0 : C := (.seq (.kp [4] (.ops [o 26 (.mv (.t 1)), o 4 (.mv (.t 26))])) C.ret)
def QF.d1 : C := (.seq (.seq (.kp [0, 1, 5, 9] (.ops [o 6 (.mv (.t 5)), o 7 (.mv (.t 0)), o 8 (.len false (.t 7)), o 9 (.bin .lss 0 (.t 6) (.t 8))])) (.cond (.t 9) C.skip (.exit 0))) (.seq (.blk 1 (.seq (.kp [0, 1, 5] (.ops [o 12 (.mv (.t 0)), o 13 (.mv (.t 5)), o 14 (.mv (.t 1)), o 15 (.iaddr 2 (.t 12) (.t 13)), o 16 (.faddr 0 (.t 15)), oz none none [] (.store 1 (.t 16) (.t 14))])) (.seq (.kp [0, 1, 5] (.ops [o 17 (.mv (.t 1)), o 18 (.bin .add 0 (.t 17) (.k (.i .i64 1))), o 1 (.mv (.t 18))])) (.seq (.kp [0, 1, 5] (.ops [o 19 (.mv (.t 0)), o 20 (.mv (.t 5)), o 21 (.mv (.t 1)), o 22 (.iaddr 2 (.t 19) (.t 20)), o 23 (.faddr 1 (.t 22)), oz none none [] (.store 1 (.t 23) (.t 21))])) (.kp [0, 1, 5] (.ops [o 24 (.mv (.t 1)), o 25 (.bin .add 0 (.t 24) (.k (.i .i64 1))), o 1 (.mv (.t 25))])))))) (.kp [0, 1, 5] (.ops [o 10 (.mv (.t 5)), o 11 (.bin .add 0 (.t 10) (.k (.i .i64 1))), o 5 (.mv (.t 11))]))))
def QF.c1 : C := .loop 1 [0, 1, 5] QF.d1
def QF.B : C := (.seq (.kp [0, 1] (.ops [o 4 (.mv (.k (.i .i64 0)))])) (.seq (.seq (.kp [0, 1, 5] (.ops [o 5 (.mv (.k (.i .i64 0)))])) (.blk 0 QF.c1)) QF.c0))
def QF.F : V.Fn := ⟨1, QF.B, [.t 4]⟩
def QM.c0 : C := (.seq (.kp [4] (.ops [o 18 (.mv (.t 1)), o 4 (.mv (.t 18))])) C.ret)
def QM.d1 : C := (.seq (.seq (.kp [0, 1, 5, 9] (.ops [o 6 (.mv (.t 5)), o 7 (.mv (.t 0)), o 8 (.len false (.t 7)), o 9 (.bin .lss 0 (.t 6) (.t 8))])) (.cond (.t 9) C.skip (.exit 0))) (.seq (.blk 1 (.seq (.kp [0, 1, 5] (.ops [o 12 (.mv (.t 0)), o 13 (.mv (.t 5)), o 14 (.mv (.t 1)), o 15 (.iaddr 1 (.t 12) (.t 13)), oz none none [] (.store 1 (.t 15) (.t 14))])) (.kp [0, 1, 5] (.ops [o 16 (.mv (.t 1)), o 17 (.bin .add 0 (.t 16) (.k (.i .i64 1))), o 1 (.mv (.t 17))])))) (.kp [0, 1, 5] (.ops [o 10 (.mv (.t 5)), o 11 (.bin .add 0 (.t 10) (.k (.i .i64 1))), o 5 (.mv (.t 11))]))))
def QM.c1 : C := .loop 1 [0, 1, 5] QM.d1
def QM.B : C := (.seq (.kp [0, 1] (.ops [o 4 (.mv (.k (.i .i64 0)))])) (.seq (.seq (.kp [0, 1, 5] (.ops [o 5 (.mv (.k (.i .i64 0)))])) (.blk 0 QM.c1)) QM.c0))
def QM.F : V.Fn := ⟨1, QM.B, [.t 4]⟩
def Q1.c0 : C := (.seq (.kp [4] (.ops [o 47 (.mv (.t 1)), o 4 (.mv (.t 47))])) C.ret)
def Q1.d1 : C := (.seq (.seq (.kp [0, 1, 5, 9] (.ops [o 6 (.mv (.t 5)), o 7 (.mv (.t 0)), o 8 (.len false (.t 7)), o 9 (.bin .lss 0 (.t 6) (.t 8))])) (.cond (.t 9) C.skip (.exit 0))) (.seq (.blk 1 (.seq (.kp [0, 1, 5] (.ops [o 12 (.mv (.t 0)), o 13 (.mv (.t 5)), o 14 (.mv (.t 1)), o 15 (.iaddr 5 (.t 12) (.t 13)), o 16 (.faddr 0 (.t 15)), oz none none [] (.store 1 (.t 16) (.t 14))])) (.seq (.kp [0, 1, 5] (.ops [o 17 (.mv (.t 1)), o 18 (.bin .add 0 (.t 17) (.k (.i .i64 1))), o 1 (.mv (.t 18))])) (.seq (.kp [0, 1, 5] (.ops [o 19 (.mv (.t 0)), o 20 (.mv (.t 5)), o 21 (.iaddr 5 (.t 19) (.t 20)), o 22 (.faddr 1 (.t 21)), o 23 (.load none (.t 22)), o 24 (.mv (.t 1)), oz (some 25) none [23] (.call 62 [true, false] [.t 23, .t 24]), o 1 (.mv (.t 25))])) (.seq (.kp [0, 1, 5] (.ops [o 26 (.mv (.t 0)), o 27 (.mv (.t 5)), o 28 (.mv (.t 1)), o 29 (.iaddr 5 (.t 26) (.t 27)), o 30 (.faddr 2 (.t 29)), oz none none [] (.store 1 (.t 30) (.t 28))])) (.seq (.kp [0, 1, 5] (.ops [o 31 (.mv (.t 1)), o 32 (.bin .add 0 (.t 31) (.k (.i .i64 1))), o 1 (.mv (.t 32))])) (.seq (.kp [0, 1, 5] (.ops [o 33 (.mv (.t 0)), o 34 (.mv (.t 5)), o 35 (.mv (.t 1)), o 36 (.iaddr 5 (.t 33) (.t 34)), o 37 (.faddr 3 (.t 36)), oz none none [] (.store 1 (.t 37) (.t 35))])) (.seq (.kp [0, 1, 5] (.ops [o 38 (.mv (.t 1)), o 39 (.bin .add 0 (.t 38) (.k (.i .i64 1))), o 1 (.mv (.t 39))])) (.seq (.kp [0, 1, 5] (.ops [o 40 (.mv (.t 0)), o 41 (.mv (.t 5)), o 42 (.mv (.t 1)), o 43 (.iaddr 5 (.t 40) (.t 41)), o 44 (.faddr 4 (.t 43)), oz none none [] (.store 1 (.t 44) (.t 42))])) (.kp [0, 1, 5] (.ops [o 45 (.mv (.t 1)), o 46 (.bin .add 0 (.t 45) (.k (.i .i64 1))), o 1 (.mv (.t 46))]))))))))))) (.kp [0, 1, 5] (.ops [o 10 (.mv (.t 5)), o 11 (.bin .add 0 (.t 10) (.k (.i .i64 1))), o 5 (.mv (.t 11))]))))
def Q1.c1 : C := .loop 1 [0, 1, 5] Q1.d1
def Q1.B : C := (.seq (.kp [0, 1] (.ops [o 4 (.mv (.k (.i .i64 0)))])) (.seq (.seq (.kp [0, 1, 5] (.ops [o 5 (.mv (.k (.i .i64 0)))])) (.blk 0 Q1.c1)) Q1.c0))
def Q1.F : V.Fn := ⟨1, Q1.B, [.t 4]⟩
def QR.c0 : C := (.seq (.kp [4] (.ops [o 18 (.mv (.t 1)), o 4 (.mv (.t 18))])) C.ret)
def QR.d1 : C := (.seq (.seq (.kp [0, 1, 5, 9] (.ops [o 6 (.mv (.t 5)), o 7 (.mv (.t 0)), o 8 (.len false (.t 7)), o 9 (.bin .lss 0 (.t 6) (.t 8))])) (.cond (.t 9) C.skip (.exit 0))) (.seq (.blk 1 (.kp [0, 1, 5] (.ops [o 12 (.mv (.t 0)), o 13 (.mv (.t 5)), o 14 (.iaddr 1 (.t 12) (.t 13)), o 15 (.load none (.t 14)), o 16 (.mv (.t 1)), oz (some 17) none [15] (.call 28 [true, false] [.t 15, .t 16]), o 1 (.mv (.t 17))]))) (.kp [0, 1, 5] (.ops [o 10 (.mv (.t 5)), o 11 (.bin .add 0 (.t 10) (.k (.i .i64 1))), o 5 (.mv (.t 11))]))))
def QR.c1 : C := .loop 1 [0, 1, 5] QR.d1
def QR.B : C := (.seq (.kp [0, 1] (.ops [o 4 (.mv (.k (.i .i64 0)))])) (.seq (.seq (.kp [0, 1, 5] (.ops [o 5 (.mv (.k (.i .i64 0)))])) (.blk 0 QR.c1)) QR.c0))
def QR.F : V.Fn := ⟨1, QR.B, [.t 4]⟩
def QaG.B : C := (.seq (.kp [1, 2] (.ops [o 2 (.boxK (.t 0)), o 4 (.mv (.k (.i .i64 0)))])) (.seq (.kp [1, 2] (.ops [o 5 (.faddr 0 (.t 2)), o 6 (.load none (.t 5)), o 7 (.mv (.t 1)), oz (some 8) none [6] (.call 60 [true, false] [.t 6, .t 7]), o 1 (.mv (.t 8))])) (.seq (.kp [1] (.ops [o 9 (.faddr 1 (.t 2)), o 10 (.load none (.t 9)), o 11 (.mv (.t 1)), oz (some 12) none [10] (.call 61 [true, false] [.t 10, .t 11]), o 1 (.mv (.t 12))])) (.seq (.kp [4] (.ops [o 13 (.mv (.t 1)), o 4 (.mv (.t 13))])) C.ret))))
def QaG.F : V.Fn := ⟨2, QaG.B, [.t 4]⟩
def Qz.c0 : C := (.seq (.kp [4] (.ops [o 30 (.mv (.t 1)), o 4 (.mv (.t 30))])) C.ret)
def Qz.d1 : C := (.seq (.seq (.kp [0, 1, 5, 9] (.ops [o 6 (.mv (.t 5)), o 7 (.mv (.t 0)), o 8 (.len false (.t 7)), o 9 (.bin .lss 0 (.t 6) (.t 8))])) (.cond (.t 9) C.skip (.exit 0))) (.seq (.blk 1 (.seq (.seq (.kp [0, 1, 5, 18] (.ops [o 12 (.mv (.t 0)), o 13 (.mv (.t 5)), o 14 (.iaddr 2 (.t 12) (.t 13)), o 15 (.faddr 0 (.t 14)), o 16 (.load none (.t 15)), o 17 (.mv (.t 1)), o 18 (.bin .neq 0 (.t 16) (.t 17))])) (.cond (.t 18) (.seq (.kp [4] (.ops [o 4 (.mv (.k (.i .i64 (-1))))])) C.ret) C.skip)) (.seq (.kp [0, 1, 5] (.ops [o 19 (.mv (.t 1)), o 20 (.bin .add 0 (.t 19) (.k (.i .i64 1))), o 1 (.mv (.t 20))])) (.seq (.seq (.kp [0, 1, 5, 27] (.ops [o 21 (.mv (.t 0)), o 22 (.mv (.t 5)), o 23 (.iaddr 2 (.t 21) (.t 22)), o 24 (.faddr 1 (.t 23)), o 25 (.load none (.t 24)), o 26 (.mv (.t 1)), o 27 (.bin .neq 0 (.t 25) (.t 26))])) (.cond (.t 27) (.seq (.kp [4] (.ops [o 4 (.mv (.k (.i .i64 (-1))))])) C.ret) C.skip)) (.kp [0, 1, 5] (.ops [o 28 (.mv (.t 1)), o 29 (.bin .add 0 (.t 28) (.k (.i .i64 1))), o 1 (.mv (.t 29))])))))) (.kp [0, 1, 5] (.ops [o 10 (.mv (.t 5)), o 11 (.bin .add 0 (.t 10) (.k (.i .i64 1))), o 5 (.mv (.t 11))]))))
def Qz.c1 : C := .loop 1 [0, 1, 5] Qz.d1
def Qz.B : C := (.seq (.kp [0, 1] (.ops [o 4 (.mv (.k (.i .i64 0)))])) (.seq (.seq (.kp [0, 1, 5] (.ops [o 5 (.mv (.k (.i .i64 0)))])) (.blk 0 Qz.c1)) Qz.c0))
def Qz.F : V.Fn := ⟨1, Qz.B, [.t 4]⟩
def QH.c0 : C := (.seq (.kp [4] (.ops [o 20 (.mv (.t 1)), o 4 (.mv (.t 20))])) C.ret)
def QH.d1 : C := (.seq (.seq (.kp [0, 1, 5, 9] (.ops [o 6 (.mv (.t 5)), o 7 (.mv (.t 0)), o 8 (.len false (.t 7)), o 9 (.bin .lss 0 (.t 6) (.t 8))])) (.cond (.t 9) C.skip (.exit 0))) (.seq (.blk 1 (.seq (.seq (.kp [0, 1, 5, 17] (.ops [o 12 (.mv (.t 0)), o 13 (.mv (.t 5)), o 14 (.iaddr 1 (.t 12) (.t 13)), o 15 (.load none (.t 14)), o 16 (.mv (.t 1)), o 17 (.bin .neq 0 (.t 15) (.t 16))])) (.cond (.t 17) (.seq (.kp [4] (.ops [o 4 (.mv (.k (.i .i64 (-1))))])) C.ret) C.skip)) (.kp [0, 1, 5] (.ops [o 18 (.mv (.t 1)), o 19 (.bin .add 0 (.t 18) (.k (.i .i64 1))), o 1 (.mv (.t 19))])))) (.kp [0, 1, 5] (.ops [o 10 (.mv (.t 5)), o 11 (.bin .add 0 (.t 10) (.k (.i .i64 1))), o 5 (.mv (.t 11))]))))
def QH.c1 : C := .loop 1 [0, 1, 5] QH.d1
def QH.B : C := (.seq (.kp [0, 1] (.ops [o 4 (.mv (.k (.i .i64 0)))])) (.seq (.seq (.kp [0, 1, 5] (.ops [o 5 (.mv (.k (.i .i64 0)))])) (.blk 0 QH.c1)) QH.c0))
def QH.F : V.Fn := ⟨1, QH.B, [.t 4]⟩
def QC.c0 : C := (.seq (.kp [4] (.ops [o 57 (.mv (.t 1)), o 4 (.mv (.t 57))])) C.ret)
def QC.d1 : C := (.seq (.seq (.kp [0, 1, 5, 9] (.ops [o 6 (.mv (.t 5)), o 7 (.mv (.t 0)), o 8 (.len false (.t 7)), o 9 (.bin .lss 0 (.t 6) (.t 8))])) (.cond (.t 9) C.skip (.exit 0))) (.seq (.blk 1 (.seq (.seq (.kp [0, 1, 5, 18] (.ops [o 12 (.mv (.t 0)), o 13 (.mv (.t 5)), o 14 (.iaddr 5 (.t 12) (.t 13)), o 15 (.faddr 0 (.t 14)), o 16 (.load none (.t 15)), o 17 (.mv (.t 1)), o 18 (.bin .neq 0 (.t 16) (.t 17))])) (.cond (.t 18) (.seq (.kp [4] (.ops [o 4 (.mv (.k (.i .i64 (-1))))])) C.ret) C.skip)) (.seq (.kp [0, 1, 5] (.ops [o 19 (.mv (.t 1)), o 20 (.bin .add 0 (.t 19) (.k (.i .i64 1))), o 1 (.mv (.t 20))])) (.seq (.kp [0, 1, 5] (.ops [o 21 (.mv (.t 0)), o 22 (.mv (.t 5)), o 23 (.iaddr 5 (.t 21) (.t 22)), o 24 (.faddr 1 (.t 23)), o 25 (.load none (.t 24)), o 26 (.mv (.t 1)), o 27 (.call 115 [false, false] [.t 25, .t 26]), o 1 (.mv (.t 27))])) (.seq (.seq (.kp [0, 1, 5, 29] (.ops [o 28 (.mv (.t 1)), o 29 (.bin .lss 0 (.t 28) (.k (.i .i64 0)))])) (.cond (.t 29) (.seq (.kp [4] (.ops [o 4 (.mv (.k (.i .i64 (-1))))])) C.ret) C.skip)) (.seq (.seq (.kp [0, 1, 5, 36] (.ops [o 30 (.mv (.t 0)), o 31 (.mv (.t 5)), o 32 (.iaddr 5 (.t 30) (.t 31)), o 33 (.faddr 2 (.t 32)), o 34 (.load none (.t 33)), o 35 (.mv (.t 1)), o 36 (.bin .neq 0 (.t 34) (.t 35))])) (.cond (.t 36) (.seq (.kp [4] (.ops [o 4 (.mv (.k (.i .i64 (-1))))])) C.ret) C.skip)) (.seq (.kp [0, 1, 5] (.ops [o 37 (.mv (.t 1)), o 38 (.bin .add 0 (.t 37) (.k (.i .i64 1))), o 1 (.mv (.t 38))])) (.seq (.seq (.kp [0, 1, 5, 45] (.ops [o 39 (.mv (.t 0)), o 40 (.mv (.t 5)), o 41 (.iaddr 5 (.t 39) (.t 40)), o 42 (.faddr 3 (.t 41)), o 43 (.load none (.t 42)), o 44 (.mv (.t 1)), o 45 (.bin .neq 0 (.t 43) (.t 44))])) (.cond (.t 45) (.seq (.kp [4] (.ops [o 4 (.mv (.k (.i .i64 (-1))))])) C.ret) C.skip)) (.seq (.kp [0, 1, 5] (.ops [o 46 (.mv (.t 1)), o 47 (.bin .add 0 (.t 46) (.k (.i .i64 1))), o 1 (.mv (.t 47))])) (.seq (.seq (.kp [0, 1, 5, 54] (.ops [o 48 (.mv (.t 0)), o 49 (.mv (.t 5)), o 50 (.iaddr 5 (.t 48) (.t 49)), o 51 (.faddr 4 (.t 50)), o 52 (.load none (.t 51)), o 53 (.mv (.t 1)), o 54 (.bin .neq 0 (.t 52) (.t 53))])) (.cond (.t 54) (.seq (.kp [4] (.ops [o 4 (.mv (.k (.i .i64 (-1))))])) C.ret) C.skip)) (.kp [0, 1, 5] (.ops [o 55 (.mv (.t 1)), o 56 (.bin .add 0 (.t 55) (.k (.i .i64 1))), o 1 (.mv (.t 56))])))))))))))) (.kp [0, 1, 5] (.ops [o 10 (.mv (.t 5)), o 11 (.bin .add 0 (.t 10) (.k (.i .i64 1))), o 5 (.mv (.t 11))]))))
def QC.c1 : C := .loop 1 [0, 1, 5] QC.d1
def QC.B : C := (.seq (.kp [0, 1] (.ops [o 4 (.mv (.k (.i .i64 0)))])) (.seq (.seq (.kp [0, 1, 5] (.ops [o 5 (.mv (.k (.i .i64 0)))])) (.blk 0 QC.c1)) QC.c0))
def QC.F : V.Fn := ⟨1, QC.B, [.t 4]⟩
def QJ.c0 : C := (.seq (.kp [4] (.ops [o 20 (.mv (.t 1)), o 4 (.mv (.t 20))])) C.ret)
def QJ.d1 : C := (.seq (.seq (.kp [0, 1, 5, 9] (.ops [o 6 (.mv (.t 5)), o 7 (.mv (.t 0)), o 8 (.len false (.t 7)), o 9 (.bin .lss 0 (.t 6) (.t 8))])) (.cond (.t 9) C.skip (.exit 0))) (.seq (.blk 1 (.seq (.kp [0, 1, 5] (.ops [o 12 (.mv (.t 0)), o 13 (.mv (.t 5)), o 14 (.iaddr 1 (.t 12) (.t 13)), o 15 (.load none (.t 14)), o 16 (.mv (.t 1)), o 17 (.call 96 [false, false] [.t 15, .t 16]), o 1 (.mv (.t 17))])) (.seq (.kp [0, 1, 5, 19] (.ops [o 18 (.mv (.t 1)), o 19 (.bin .lss 0 (.t 18) (.k (.i .i64 0)))])) (.cond (.t 19) (.seq (.kp [4] (.ops [o 4 (.mv (.k (.i .i64 (-1))))])) C.ret) C.skip)))) (.kp [0, 1, 5] (.ops [o 10 (.mv (.t 5)), o 11 (.bin .add 0 (.t 10) (.k (.i .i64 1))), o 5 (.mv (.t 11))]))))
def QJ.c1 : C := .loop 1 [0, 1, 5] QJ.d1
def QJ.B : C := (.seq (.kp [0, 1] (.ops [o 4 (.mv (.k (.i .i64 0)))])) (.seq (.seq (.kp [0, 1, 5] (.ops [o 5 (.mv (.k (.i .i64 0)))])) (.blk 0 QJ.c1)) QJ.c0))
def QJ.F : V.Fn := ⟨1, QJ.B, [.t 4]⟩
def QaN.B : C := (.seq (.kp [1, 2] (.ops [o 2 (.boxK (.t 0)), o 4 (.mv (.k (.i .i64 0)))])) (.seq (.kp [1, 2] (.ops [o 5 (.faddr 0 (.t 2)), o 6 (.load none (.t 5)), o 7 (.mv (.t 1)), o 8 (.call 63 [false, false] [.t 6, .t 7]), o 1 (.mv (.t 8))])) (.seq (.seq (.kp [1, 2, 10] (.ops [o 9 (.mv (.t 1)), o 10 (.bin .lss 0 (.t 9) (.k (.i .i64 0)))])) (.cond (.t 10) (.seq (.kp [4] (.ops [o 4 (.mv (.k (.i .i64 (-1))))])) C.ret) C.skip)) (.seq (.kp [1] (.ops [o 11 (.faddr 1 (.t 2)), o 12 (.load none (.t 11)), o 13 (.mv (.t 1)), o 14 (.call 64 [false, false] [.t 12, .t 13]), o 1 (.mv (.t 14))])) (.seq (.seq (.kp [1, 16] (.ops [o 15 (.mv (.t 1)), o 16 (.bin .lss 0 (.t 15) (.k (.i .i64 0)))])) (.cond (.t 16) (.seq (.kp [4] (.ops [o 4 (.mv (.k (.i .i64 (-1))))])) C.ret) C.skip)) (.seq (.kp [4] (.ops [o 17 (.mv (.t 1)), o 4 (.mv (.t 17))])) C.ret))))))
def QaN.F : V.Fn := ⟨2, QaN.B, [.t 4]⟩
def Qb9.B : C := (.seq (.kp [1, 2] (.ops [o 2 (.boxK (.t 0)), o 4 (.mv (.k (.b false)))])) (.seq (.kp [1, 2, 5] (.ops [o 5 (.mv (.k (.i .i64 1048576)))])) (.seq (.kp [1, 2, 5] (.ops [o 17 (.load (some 2) (.t 2)), o 18 (.mv (.t 5)), o 19 (.call 19 [false, false] [.t 17, .t 18]), o 5 (.mv (.t 19))])) (.seq (.seq (.kp [1, 2, 5, 21] (.ops [o 20 (.mv (.t 5)), o 21 (.bin .lss 0 (.t 20) (.k (.i .i64 0)))])) (.cond (.t 21) (.seq (.kp [4] (.ops [o 4 (.mv (.k (.b true)))])) C.ret) C.skip)) (.seq (.kp [1, 2, 5] (.ops [o 22 (.mv (.t 1)), o 23 (.mv (.t 5)), o 24 (.call 20 [false, false] [.t 22, .t 23]), o 5 (.mv (.t 24))])) (.seq (.seq (.kp [1, 2, 26] (.ops [o 25 (.mv (.t 5)), o 26 (.bin .lss 0 (.t 25) (.k (.i .i64 0)))])) (.cond (.t 26) (.seq (.kp [4] (.ops [o 4 (.mv (.k (.b true)))])) C.ret) C.skip)) (.seq (.kp [1, 2, 6, 7] (.ops [o 28 (.load (some 2) (.t 2)), o 29 (.call 22 [false] [.t 28]), o 30 (.mv (.t 1)), o 31 (.call 23 [false] [.t 30]), o 32 (.call 21 [false, false] [.t 29, .t 31]), o 27 (.mv (.t 32)), o 33 (.ext 0 (.t 27)), o 34 (.ext 1 (.t 27)), o 6 (.alloc [.deep false false 2 [], .deep false false 1 []]), oz none none [] (.store 2 (.t 6) (.t 33)), o 7 (.mv (.t 34))])) (.seq (.kp [1, 2, 6, 7, 8] (.ops [o 35 (.load (some 2) (.t 2)), o 36 (.call 22 [false] [.t 35]), o 8 (.alloc [.deep false false 2 [], .deep false false 1 []]), oz none none [] (.store 2 (.t 8) (.t 36))])) (.seq (.kp [1, 2, 6, 7, 8, 9] (.ops [o 37 (.mv (.t 1)), o 38 (.call 23 [false] [.t 37]), o 9 (.mv (.t 38))])) (.seq (.kp [1, 2, 6, 7, 8, 9, 10, 11] (.ops [o 40 (.load (some 2) (.t 8)), o 41 (.mv (.t 9)), o 42 (.call 24 [false, false] [.t 40, .t 41]), o 39 (.mv (.t 42)), o 43 (.ext 0 (.t 39)), o 44 (.ext 1 (.t 39)), o 10 (.alloc [.deep false false 2 [], .deep false false 1 []]), oz none none [] (.store 2 (.t 10) (.t 43)), o 11 (.mv (.t 44))])) (.seq (.seq (.kp [1, 2, 6, 7, 8, 9, 10, 11, 53] (.ops [o 45 (.load (some 2) (.t 10)), o 46 (.load (some 2) (.t 6)), o 47 (.call 25 [false, false] [.t 45, .t 46]), o 48 (.un .not (.t 47)), o 49 (.mv (.t 48)), og 50 49 false (.mv (.t 11)), og 51 49 false (.mv (.t 7)), og 52 49 false (.bin .neq 1 (.t 50) (.t 51)), o 53 (.pick (.t 49) (.k (.b true)) (.t 52))])) (.cond (.t 53) (.seq (.kp [4] (.ops [o 4 (.mv (.k (.b false)))])) C.ret) C.skip)) (.seq (.seq (.kp [1, 2, 6, 7, 8, 9, 10, 11, 58] (.draw (tk [1] (.alt (tk [0, 2, 3, 4] .done) (tk [2, 0, 3, 4] .done))) [o 54 (.load (some 2) (.t 8)), o 55 (.load (some 2) (.t 2)), o 56 (.call 22 [false] [.t 55]), o 57 (.call 25 [false, false] [.t 54, .t 56]), o 58 (.un .not (.t 57))])) (.cond (.t 58) (.seq (.kp [4] (.ops [o 4 (.mv (.k (.b false)))])) C.ret) C.skip)) (.seq (.seq (.kp [1, 2, 6, 7, 8, 9, 10, 11, 63] (.ops [o 59 (.mv (.t 9)), o 60 (.mv (.t 1)), o 61 (.call 23 [false] [.t 60]), o 62 (.call 26 [false, false] [.t 59, .t 61]), o 63 (.un .not (.t 62))])) (.cond (.t 63) (.seq (.kp [4] (.ops [o 4 (.mv (.k (.b false)))])) C.ret) C.skip)) (.seq (.kp [1, 2, 6, 7, 8, 9, 10, 11, 12] (.ops [o 12 (.mv (.k (.i .i64 1)))])) (.seq (.kp [1, 2, 6, 7, 9, 10, 11, 12] (.ops [o 64 (.load (some 2) (.t 8)), o 65 (.mv (.t 12)), oz (some 66) none [64] (.call 27 [true, false] [.t 64, .t 65]), o 12 (.mv (.t 66))])) (.seq (.kp [1, 2, 6, 7, 10, 11, 12] (.ops [o 67 (.mv (.t 9)), o 68 (.mv (.t 12)), o 69 (.call 28 [true, false] [.t 67, .t 68]), o 12 (.mv (.t 69))])) (.seq (.seq (.kp [1, 2, 6, 7, 10, 82] (.ops [o 70 (.mv (.t 12)), o 71 (.bin .lss 0 (.t 70) (.k (.i .i64 0))), o 72 (.mv (.t 71)), og 73 72 false (.load (some 2) (.t 10)), og 74 72 false (.load (some 2) (.t 6)), og 75 72 false (.call 25 [false, false] [.t 73, .t 74]), og 76 72 false (.un .not (.t 75)), o 77 (.pick (.t 72) (.k (.b true)) (.t 76)), o 78 (.mv (.t 77)), og 79 78 false (.mv (.t 11)), og 80 78 false (.mv (.t 7)), og 81 78 false (.bin .neq 1 (.t 79) (.t 80)), o 82 (.pick (.t 78) (.k (.b true)) (.t 81))])) (.cond (.t 82) (.seq (.kp [4] (.ops [o 4 (.mv (.k (.b false)))])) C.ret) C.skip)) (.seq (.kp [1, 2, 6, 7, 10, 13] (.ops [o 13 (.mv (.k (.i .i64 1)))])) (.seq (.kp [1, 2, 6, 7, 10, 13] (.ops [o 83 (.load (some 2) (.t 10)), o 84 (.mv (.t 13)), oz (some 85) none [83] (.call 27 [true, false] [.t 83, .t 84]), o 13 (.mv (.t 85))])) (.seq (.kp [1, 2, 6, 7, 10, 13, 14] (.ops [o 14 (.mv (.k (.i .i64 1)))])) (.seq (.kp [1, 2, 6, 7, 10, 13, 14] (.ops [o 86 (.load (some 2) (.t 10)), o 87 (.mv (.t 14)), o 88 (.call 29 [false, false] [.t 86, .t 87]), o 14 (.mv (.t 88))])) (.seq (.seq (.kp [1, 2, 6, 7, 10, 13, 14, 90] (.ops [o 89 (.mv (.t 14)), o 90 (.bin .lss 0 (.t 89) (.k (.i .i64 0)))])) (.cond (.t 90) (.seq (.kp [4] (.ops [o 4 (.mv (.k (.b false)))])) C.ret) C.skip)) (.seq (.seq (.kp [1, 2, 6, 7, 10, 13, 93] (.ops [o 91 (.mv (.t 14)), o 92 (.mv (.t 13)), o 93 (.bin .neq 0 (.t 91) (.t 92))])) (.cond (.t 93) (.seq (.kp [4] (.ops [o 4 (.mv (.k (.b false)))])) C.ret) C.skip)) (.seq (.kp [6, 7, 10, 13, 15, 16] (.ops [o 95 (.load (some 2) (.t 2)), o 96 (.call 22 [false] [.t 95]), o 97 (.mv (.t 1)), o 98 (.call 23 [false] [.t 97]), o 99 (.call 24 [false, false] [.t 96, .t 98]), o 94 (.mv (.t 99)), o 100 (.ext 0 (.t 94)), o 101 (.ext 1 (.t 94)), o 15 (.alloc [.deep false false 2 [], .deep false false 1 []]), oz none none [] (.store 2 (.t 15) (.t 100)), o 16 (.mv (.t 101))])) (.seq (.seq (.kp [10, 13, 110] (.ops [o 102 (.load (some 2) (.t 15)), o 103 (.load (some 2) (.t 6)), o 104 (.call 25 [false, false] [.t 102, .t 103]), o 105 (.un .not (.t 104)), o 106 (.mv (.t 105)), og 107 106 false (.mv (.t 16)), og 108 106 false (.mv (.t 7)), og 109 106 false (.bin .neq 1 (.t 107) (.t 108)), o 110 (.pick (.t 106) (.k (.b true)) (.t 109))])) (.cond (.t 110) (.seq (.kp [4] (.ops [o 4 (.mv (.k (.b false)))])) C.ret) C.skip)) (.seq (.kp [10, 13, 14] (.ops [o 14 (.mv (.k (.i .i64 1)))])) (.seq (.kp [13, 14] (.ops [o 111 (.load (some 2) (.t 10)), o 112 (.mv (.t 14)), o 113 (.call 29 [false, false] [.t 111, .t 112]), o 14 (.mv (.t 113))])) (.seq (.seq (.kp [13, 14, 115] (.ops [o 114 (.mv (.t 14)), o 115 (.bin .lss 0 (.t 114) (.k (.i .i64 0)))])) (.cond (.t 115) (.seq (.kp [4] (.ops [o 4 (.mv (.k (.b false)))])) C.ret) C.skip)) (.seq (.seq (.kp [118] (.ops [o 116 (.mv (.t 14)), o 117 (.mv (.t 13)), o 118 (.bin .neq 0 (.t 116) (.t 117))])) (.cond (.t 118) (.seq (.kp [4] (.ops [o 4 (.mv (.k (.b false)))])) C.ret) C.skip)) (.seq (.kp [4] (.ops [o 4 (.mv (.k (.b true)))])) C.ret))))))))))))))))))))))))))))))
def Qb9.F : V.Fn := ⟨3, Qb9.B, [.t 4]⟩
def Q3.c0 : C := (.seq (.kp [4] (.ops [o 38 (.mv (.t 5)), o 4 (.mv (.t 38))])) C.ret)
def Q3.d1 : C := (.seq (.seq (.kp [1, 2, 5, 6, 24] (.ops [o 22 (.mv (.t 6)), o 23 (.mv (.t 1)), o 24 (.bin .lss 0 (.t 22) (.t 23))])) (.cond (.t 24) C.skip (.exit 0))) (.seq (.blk 1 (.kp [1, 2, 5, 6] (.ops [o 28 (.mv (.t 5)), o 29 (.faddr 1 (.t 2)), o 30 (.load none (.t 29)), o 31 (.mv (.t 6)), o 32 (.iaddr 1 (.t 30) (.t 31)), o 33 (.load none (.t 32)), o 34 (.call 73 [false, false] [.t 28, .t 33]), o 27 (.mv (.t 34)), o 35 (.ext 0 (.t 27)), o 36 (.ext 1 (.t 27)), o 37 (.ext 2 (.t 27)), o 5 (.mv (.t 35))]))) (.kp [1, 2, 5, 6] (.ops [o 25 (.mv (.t 6)), o 26 (.bin .add 0 (.t 25) (.k (.i .i64 1))), o 6 (.mv (.t 26))]))))
def Q3.c1 : C := .loop 2 [1, 2, 5, 6] Q3.d1
def Q3.B : C := (.seq (.kp [1, 2] (.ops [o 2 (.boxK (.t 0)), o 4 (.mv (.k (.nl 2)))])) (.seq (.seq (.kp [1, 2, 17] (.ops [o 7 (.load (some 2) (.t 2)), o 8 (.call 50 [false] [.t 7]), o 9 (.un .not (.t 8)), o 10 (.mv (.t 9)), og 11 10 false (.mv (.t 1)), og 12 10 false (.faddr 1 (.t 2)), og 13 10 false (.load none (.t 12)), og 14 10 false (.len false (.t 13)), og 15 10 false (.call 33 [false, false, false] [.t 11, .k (.i .i64 0), .t 14]), og 16 10 false (.un .not (.t 15)), o 17 (.pick (.t 10) (.k (.b true)) (.t 16))])) (.cond (.t 17) (.seq (.kp [4] (.ops [o 18 (.lit 2 0 [.i .i64 0, .i .i64 0] []), o 4 (.mv (.t 18))])) C.ret) C.skip)) (.seq (.kp [1, 2, 5] (.ops [o 19 (.faddr 0 (.t 2)), o 20 (.load none (.t 19)), o 21 (.call 85 [false] [.t 20]), o 5 (.mv (.t 21))])) (.seq (.seq (.kp [1, 2, 5, 6] (.ops [o 6 (.mv (.k (.i .i64 0)))])) (.blk 0 Q3.c1)) Q3.c0))))
def Q3.F : V.Fn := ⟨2, Q3.B, [.t 4]⟩
def QaT.B : C := (.seq (.kp [0, 3, 4] (.ops [o 3 (.boxK (.t 1)), o 4 (.alloc [.i .i64 0, .deep false false 1 [], .i .i64 0, .i .i64 0, .i .i64 0])])) (.seq (.kp [0, 3, 4, 5] (.ops [o 7 (.mv (.t 0)), o 8 (.faddr 1 (.t 3)), o 9 (.load none (.t 8)), o 10 (.call 116 [false, false] [.t 7, .t 9]), o 5 (.mv (.t 10))])) (.seq (.kp [0, 3, 4, 5, 6] (.ops [o 11 (.lit 1 0 [.i .i64 0] []), o 12 (.faddr 1 (.t 3)), o 13 (.load none (.t 12)), o 14 (.app 1 8 (.t 11) (.t 13)), o 6 (.mv (.t 14))])) (.seq (.seq (.kp [0, 3, 4, 5, 6, 16] (.ops [o 15 (.faddr 0 (.t 3)), o 16 (.load none (.t 15))])) (.blk 0 (.seq (.kp [0, 3, 4, 5, 6, 16, 17] (.ops [o 18 (.bin .eql 0 (.t 16) (.k (.i .i64 1))), o 17 (.mv (.t 18))])) (.cond (.t 17) (.seq (.kp [4] (.ops [o 19 (.mv (.t 6)), o 20 (.mv (.t 0)), o 21 (.mv (.t 5)), o 22 (.iaddr 2 (.t 20) (.t 21)), o 23 (.faddr 0 (.t 22)), o 24 (.load none (.t 23)), o 25 (.build [.i .i64 0, .nl 1, .i .i64 0, .i .i64 0, .i .i64 0] [(0, 1, .k (.i .i64 1)), (1, 1, .t 19), (2, 1, .t 24)]), oz none none [] (.store 5 (.t 4) (.t 25))])) C.ret) (.seq (.kp [0, 3, 4, 5, 6, 26] (.ops [o 27 (.bin .eql 0 (.t 16) (.k (.i .i64 2))), o 26 (.mv (.t 27))])) (.cond (.t 26) (.seq (.kp [4] (.draw (tk [0, 1, 2, 3, 4, 5, 6, 7, 8, 10, 11, 12, 13, 14, 16, 17] (.alt (tk [9] (.alt (tk [15, 18, 19, 20, 21] .done) (tk [18, 15, 19, 20, 21] .done))) (tk [] (.alt (tk [15] (.alt (tk [9, 18, 19, 20, 21] .done) (tk [18, 9, 19, 20, 21] .done))) (tk [18, 9, 15, 19, 20, 21] .done))))) [o 28 (.mv (.t 6)), o 29 (.mv (.t 6)), o 30 (.len false (.t 29)), o 31 (.bin .sub 0 (.t 30) (.k (.i .i64 1))), o 32 (.slR 1 (.t 28) none (some (.t 31))), o 33 (.mv (.t 0)), o 34 (.mv (.t 5)), o 35 (.iaddr 2 (.t 33) (.t 34)), o 36 (.faddr 0 (.t 35)), o 37 (.load none (.t 36)), o 38 (.mv (.t 6)), o 39 (.mv (.t 6)), o 40 (.len false (.t 39)), o 41 (.bin .sub 0 (.t 40) (.k (.i .i64 1))), o 42 (.iaddr 1 (.t 38) (.t 41)), o 43 (.load none (.t 42)), o 44 (.mv (.t 0)), o 45 (.mv (.t 5)), o 46 (.call 120 [false, false] [.t 44, .t 45]), o 47 (.len false (.t 46)), o 48 (.build [.i .i64 0, .nl 1, .i .i64 0, .i .i64 0, .i .i64 0] [(0, 1, .k (.i .i64 3)), (1, 1, .t 32), (2, 1, .t 37), (3, 1, .t 43), (4, 1, .t 47)]), oz none none [] (.store 5 (.t 4) (.t 48))])) C.ret) C.skip)))))) (.seq (.kp [4] (.ops [o 49 (.mv (.t 6)), o 50 (.faddr 3 (.t 3)), o 51 (.load none (.t 50)), o 52 (.lit 1 1 [.i .i64 0] [(0, .t 51)]), o 53 (.app 1 8 (.t 49) (.t 52)), o 54 (.build [.i .i64 0, .nl 1, .i .i64 0, .i .i64 0, .i .i64 0] [(0, 1, .k (.i .i64 2)), (1, 1, .t 53)]), oz none none [] (.store 5 (.t 4) (.t 54))])) C.ret)))))
def QaT.F : V.Fn := ⟨2, QaT.B, [.cell 4 (some 5)]⟩
def Q2.c0 : C := (.seq (.kp [4, 5] (.ops [o 46 (.mv (.t 6)), o 4 (.mv (.t 46)), o 5 (.mv (.k (.b true)))])) C.ret)
def Q2.d1 : C := (.seq (.seq (.kp [1, 6, 7, 8, 21] (.ops [o 18 (.mv (.t 8)), o 19 (.mv (.t 1)), o 20 (.len false (.t 19)), o 21 (.bin .lss 0 (.t 18) (.t 20))])) (.cond (.t 21) C.skip (.exit 0))) (.seq (.blk 1 (.seq (.kp [1, 6, 7, 8, 9, 10] (.ops [o 25 (.mv (.t 7)), o 26 (.mv (.t 1)), o 27 (.mv (.t 8)), o 28 (.iaddr 5 (.t 26) (.t 27)), o 29 (.load (some 5) (.t 28)), o 30 (.call 97 [false, false] [.t 25, .t 29]), o 24 (.mv (.t 30)), o 31 (.ext 0 (.t 24)), o 32 (.ext 1 (.t 24)), o 9 (.mv (.t 31)), o 10 (.mv (.t 32))])) (.seq (.seq (.kp [1, 6, 7, 8, 9, 34] (.ops [o 33 (.mv (.t 10)), o 34 (.bin .neq 0 (.t 33) (.k (.i .i64 0)))])) (.cond (.t 34) (.seq (.kp [4, 5] (.ops [o 35 (.lit 5 0 [.i .i64 0, .deep false false 1 [], .i .i64 0, .i .i64 0, .i .i64 0] []), o 4 (.mv (.t 35)), o 5 (.mv (.k (.b false)))])) C.ret) C.skip)) (.seq (.kp [1, 6, 8, 9] (.ops [o 36 (.mv (.t 7)), o 37 (.mv (.t 1)), o 38 (.mv (.t 8)), o 39 (.iaddr 5 (.t 37) (.t 38)), o 40 (.load (some 5) (.t 39)), o 41 (.call 98 [false, false] [.t 36, .t 40]), o 42 (.lit 5 1 [.i .i64 0, .deep false false 1 [], .i .i64 0, .i .i64 0, .i .i64 0] [(0, .t 41)]), o 43 (.mv (.t 6)), o 44 (.app 5 56 (.t 42) (.t 43)), o 6 (.mv (.t 44))])) (.kp [1, 6, 7, 8] (.ops [o 45 (.mv (.t 9)), o 7 (.mv (.t 45))])))))) (.kp [1, 6, 7, 8] (.ops [o 22 (.mv (.t 8)), o 23 (.bin .add 0 (.t 22) (.k (.i .i64 1))), o 8 (.mv (.t 23))]))))
def Q2.c1 : C := .loop 2 [1, 6, 7, 8] Q2.d1
def Q2.B : C := (.seq (.kp [0, 1] (.ops [o 4 (.mv (.k (.nl 5))), o 5 (.mv (.k (.b false)))])) (.seq (.kp [0, 1, 6] (.ops [o 11 (.lit 5 0 [.i .i64 0, .deep false false 1 [], .i .i64 0, .i .i64 0, .i .i64 0] []), o 6 (.mv (.t 11))])) (.seq (.seq (.kp [0, 1, 6, 14] (.ops [o 12 (.mv (.t 0)), o 13 (.call 86 [false] [.t 12]), o 14 (.un .not (.t 13))])) (.cond (.t 14) (.seq (.kp [4, 5] (.ops [o 15 (.mv (.t 6)), o 4 (.mv (.t 15)), o 5 (.mv (.k (.b false)))])) C.ret) C.skip)) (.seq (.kp [1, 6, 7] (.ops [o 16 (.mv (.t 0)), o 17 (.call 85 [false] [.t 16]), o 7 (.mv (.t 17))])) (.seq (.seq (.kp [1, 6, 7, 8] (.ops [o 8 (.mv (.k (.i .i64 0)))])) (.blk 0 Q2.c1)) Q2.c0)))))
def Q2.F : V.Fn := ⟨2, Q2.B, [.t 4, .t 5]⟩
def QaM.B : C := (.seq (.kp [1, 2] (.ops [o 1 (.boxK (.t 0)), o 2 (.alloc [.deep false false 2 [], .deep false false 1 []]), o 3 (.mv (.k (.b false)))])) (.seq (.kp [1, 2, 4] (.ops [o 9 (.faddr 1 (.t 1)), o 10 (.load none (.t 9)), o 11 (.len false (.t 10)), o 4 (.mv (.t 11))])) (.seq (.seq (.kp [1, 2, 4, 18] (.ops [o 12 (.load (some 2) (.t 1)), o 13 (.call 50 [false] [.t 12]), o 14 (.un .not (.t 13)), o 15 (.mv (.t 14)), og 16 15 false (.mv (.t 4)), og 17 15 false (.bin .eql 0 (.t 16) (.k (.i .i64 0))), o 18 (.pick (.t 15) (.k (.b true)) (.t 17))])) (.cond (.t 18) (.seq (.kp [2, 3] (.ops [o 19 (.load (some 2) (.t 1)), o 20 (.call 48 [false] [.t 19]), oz none none [] (.store 2 (.t 2) (.t 20)), o 3 (.mv (.k (.b false)))])) C.ret) C.skip)) (.seq (.kp [1, 2, 5, 6] (.draw (tk [0, 1, 2, 4, 6, 7] (.alt (tk [3, 5, 8, 9, 10, 11, 12, 13, 14, 15] .done) (tk [5, 8] (.alt (tk [3, 9, 10, 11, 12, 13, 14, 15] .done) (tk [9, 3, 10, 11, 12, 13, 14, 15] .done))))) [o 22 (.load (some 2) (.t 1)), o 23 (.mv (.t 4)), o 24 (.bin .sub 0 (.t 23) (.k (.i .i64 1))), o 25 (.call 66 [false, false] [.t 22, .t 24]), o 26 (.faddr 1 (.t 1)), o 27 (.load none (.t 26)), o 28 (.mv (.t 4)), o 29 (.bin .sub 0 (.t 28) (.k (.i .i64 1))), o 30 (.iaddr 1 (.t 27) (.t 29)), o 31 (.load none (.t 30)), o 32 (.call 65 [false, false] [.t 25, .t 31]), o 21 (.mv (.t 32)), o 33 (.ext 0 (.t 21)), o 34 (.ext 1 (.t 21)), o 5 (.mv (.t 33)), o 6 (.mv (.t 34))])) (.seq (.seq (.kp [1, 2, 5, 36] (.ops [o 35 (.mv (.t 6)), o 36 (.un .not (.t 35))])) (.cond (.t 36) (.seq (.kp [2, 3] (.ops [o 37 (.load (some 2) (.t 1)), o 38 (.call 48 [false] [.t 37]), oz none none [] (.store 2 (.t 2) (.t 38)), o 3 (.mv (.k (.b false)))])) C.ret) C.skip)) (.seq (.kp [2, 7, 8] (.ops [o 40 (.load (some 2) (.t 1)), o 41 (.mv (.t 5)), o 42 (.call 21 [false, false] [.t 40, .t 41]), o 39 (.mv (.t 42)), o 43 (.ext 0 (.t 39)), o 44 (.ext 1 (.t 39)), o 7 (.alloc [.deep false false 2 [], .deep false false 1 []]), oz none none [] (.store 2 (.t 7) (.t 43)), o 8 (.mv (.t 44))])) (.seq (.kp [2, 3] (.ops [o 45 (.load (some 2) (.t 7)), o 46 (.mv (.t 8)), oz none none [45] (.store 2 (.t 2) (.t 45)), o 3 (.mv (.t 46))])) C.ret)))))))
def QaM.F : V.Fn := ⟨2, QaM.B, [.cell 2 (some 2), .t 3]⟩
def Qbb.B : C := (.seq (.kp [1, 2] (.ops [o 2 (.boxK (.t 0)), o 4 (.mv (.k (.nl 2)))])) (.seq (.kp [1, 5] (.ops [o 8 (.load (some 2) (.t 2)), o 9 (.call 93 [false] [.t 8]), o 7 (.mv (.t 9)), o 10 (.ext 0 (.t 7)), o 11 (.ext 1 (.t 7)), o 5 (.mv (.t 10)), o 6 (.mv (.t 11))])) (.seq (.seq (.kp [1, 5, 17] (.ops [o 12 (.mv (.t 1)), o 13 (.mv (.t 5)), o 14 (.len false (.t 13)), o 15 (.bin .sub 0 (.t 14) (.k (.i .i64 1))), o 16 (.call 37 [false, false, false] [.t 12, .k (.i .i64 0), .t 15]), o 17 (.un .not (.t 16))])) (.cond (.t 17) (.seq (.kp [4] (.ops [o 18 (.lit 2 0 [.i .i64 0, .i .i64 0] []), o 4 (.mv (.t 18))])) C.ret) C.skip)) (.seq (.kp [4] (.ops [o 19 (.mv (.t 5)), o 20 (.mv (.t 1)), o 21 (.iaddr 1 (.t 19) (.t 20)), o 22 (.load none (.t 21)), o 4 (.mv (.t 22))])) C.ret))))
def Qbb.F : V.Fn := ⟨2, Qbb.B, [.t 4]⟩
def QaS.B : C := (.seq (.kp [0, 3, 4] (.ops [o 3 (.boxK (.t 1)), o 4 (.alloc [.i .i64 0, .deep false false 1 [], .i .i64 0, .i .i64 0, .i .i64 0])])) (.seq (.kp [0, 3, 4, 5] (.ops [o 7 (.mv (.t 0)), o 8 (.faddr 1 (.t 3)), o 9 (.load none (.t 8)), o 10 (.call 121 [false, false] [.t 7, .t 9]), o 5 (.mv (.t 10))])) (.seq (.seq (.kp [0, 3, 4, 5, 12] (.ops [o 11 (.faddr 0 (.t 3)), o 12 (.load none (.t 11))])) (.blk 0 (.seq (.kp [0, 3, 4, 5, 12, 13] (.ops [o 14 (.bin .eql 0 (.t 12) (.k (.i .i64 1))), o 13 (.mv (.t 14))])) (.cond (.t 13) (.seq (.kp [4] (.draw (tk [0, 1, 3, 4, 5, 6] (.alt (tk [2, 7, 8, 9] .done) (tk [7, 2, 8, 9] .done))) [o 15 (.faddr 1 (.t 3)), o 16 (.load none (.t 15)), o 17 (.call 113 [false] [.t 16]), o 18 (.mv (.t 0)), o 19 (.mv (.t 5)), o 20 (.iaddr 2 (.t 18) (.t 19)), o 21 (.faddr 0 (.t 20)), o 22 (.load none (.t 21)), o 23 (.build [.i .i64 0, .nl 1, .i .i64 0, .i .i64 0, .i .i64 0] [(0, 1, .k (.i .i64 1)), (1, 1, .t 17), (2, 1, .t 22)]), oz none none [] (.store 5 (.t 4) (.t 23))])) C.ret) (.seq (.kp [0, 3, 4, 5, 24] (.ops [o 25 (.bin .eql 0 (.t 12) (.k (.i .i64 2))), o 24 (.mv (.t 25))])) (.cond (.t 24) (.seq (.kp [0, 3, 4, 5, 6] (.ops [o 26 (.faddr 1 (.t 3)), o 27 (.load none (.t 26)), o 28 (.len false (.t 27)), o 29 (.bin .sub 0 (.t 28) (.k (.i .i64 1))), o 6 (.mv (.t 29))])) (.seq (.kp [4] (.draw (tk [0, 1, 2, 3, 5, 6, 7, 8, 10, 12, 15, 16] (.alt (tk [4] (.alt (tk [9] (.alt (tk [11, 13] (.alt (tk [14, 17, 18, 19, 20] .done) (tk [17, 14, 18, 19, 20] .done))) (tk [17, 11, 13, 14, 18, 19, 20] .done))) (tk [] (.alt (tk [11, 13] (.alt (tk [9] (.alt (tk [14, 17, 18, 19, 20] .done) (tk [17, 14, 18, 19, 20] .done))) (tk [] (.alt (tk [14] (.alt (tk [9, 17, 18, 19, 20] .done) (tk [17, 9, 18, 19, 20] .done))) (tk [17, 9, 14, 18, 19, 20] .done))))) (tk [17, 9, 11, 13, 14, 18, 19, 20] .done))))) (tk [] (.alt (tk [9] (.alt (tk [4] (.alt (tk [11, 13] (.alt (tk [14, 17, 18, 19, 20] .done) (tk [17, 14, 18, 19, 20] .done))) (tk [17, 11, 13, 14, 18, 19, 20] .done))) (tk [11, 13] (.alt (tk [4] (.alt (tk [14, 17, 18, 19, 20] .done) (tk [17, 14, 18, 19, 20] .done))) (tk [14, 4, 17, 18, 19, 20] .done))))) (tk [11, 13] (.alt (tk [4] (.alt (tk [9] (.alt (tk [14, 17, 18, 19, 20] .done) (tk [17, 14, 18, 19, 20] .done))) (tk [] (.alt (tk [14] (.alt (tk [9, 17, 18, 19, 20] .done) (tk [17, 9, 18, 19, 20] .done))) (tk [17, 9, 14, 18, 19, 20] .done))))) (tk [] (.alt (tk [9] (.alt (tk [4] (.alt (tk [14, 17, 18, 19, 20] .done) (tk [17, 14, 18, 19, 20] .done))) (tk [14, 4, 17, 18, 19, 20] .done))) (tk [14] (.alt (tk [4] (.alt (tk [9, 17, 18, 19, 20] .done) (tk [17, 9, 18, 19, 20] .done))) (tk [9, 4, 17, 18, 19, 20] .done))))))))))) [o 30 (.faddr 1 (.t 3)), o 31 (.load none (.t 30)), o 32 (.mv (.t 6)), o 33 (.slR 1 (.t 31) none (some (.t 32))), o 34 (.call 113 [false] [.t 33]), o 35 (.mv (.t 0)), o 36 (.mv (.t 5)), o 37 (.iaddr 2 (.t 35) (.t 36)), o 38 (.faddr 0 (.t 37)), o 39 (.load none (.t 38)), o 40 (.faddr 1 (.t 3)), o 41 (.load none (.t 40)), o 42 (.mv (.t 6)), o 43 (.iaddr 1 (.t 41) (.t 42)), o 44 (.load none (.t 43)), o 45 (.mv (.t 0)), o 46 (.mv (.t 5)), o 47 (.call 126 [false, false] [.t 45, .t 46]), o 48 (.len false (.t 47)), o 49 (.build [.i .i64 0, .nl 1, .i .i64 0, .i .i64 0, .i .i64 0] [(0, 1, .k (.i .i64 3)), (1, 1, .t 34), (2, 1, .t 39), (3, 1, .t 44), (4, 1, .t 48)]), oz none none [] (.store 5 (.t 4) (.t 49))])) C.ret)) C.skip)))))) (.seq (.kp [4] (.draw (tk [0, 3] (.alt (tk [1] (.alt (tk [2, 4, 5, 6, 7, 8] .done) (tk [4] (.alt (tk [2, 5, 6, 7, 8] .done) (tk [5, 2, 6, 7, 8] .done))))) (tk [4] (.alt (tk [1] (.alt (tk [2, 5, 6, 7, 8] .done) (tk [5, 2, 6, 7, 8] .done))) (tk [5, 1, 2, 6, 7, 8] .done))))) [o 50 (.faddr 1 (.t 3)), o 51 (.load none (.t 50)), o 52 (.call 113 [false] [.t 51]), o 53 (.faddr 3 (.t 3)), o 54 (.load none (.t 53)), o 55 (.lit 1 1 [.i .i64 0] [(0, .t 54)]), o 56 (.app 1 8 (.t 52) (.t 55)), o 57 (.build [.i .i64 0, .nl 1, .i .i64 0, .i .i64 0, .i .i64 0] [(0, 1, .k (.i .i64 2)), (1, 1, .t 56)]), oz none none [] (.store 5 (.t 4) (.t 57))])) C.ret))))
def QaS.F : V.Fn := ⟨2, QaS.B, [.cell 4 (some 5)]⟩
def Qg.d0 : C := (.seq (.seq (.kp [0, 2, 3, 9] (.ops [o 7 (.mv (.t 2)), o 8 (.mv (.t 3)), o 9 (.bin .lss 0 (.t 7) (.t 8))])) (.cond (.t 9) C.skip (.exit 0))) (.seq (.blk 1 (.kp [0, 2, 3] (.draw (sq 16) [o 14 (.mv (.t 0)), o 15 (.mv (.t 2)), o 16 (.mv (.t 0)), o 17 (.mv (.t 3)), o 18 (.mv (.t 0)), o 19 (.mv (.t 3)), o 20 (.iaddr 5 (.t 18) (.t 19)), o 21 (.load (some 5) (.t 20)), o 22 (.mv (.t 0)), o 23 (.mv (.t 2)), o 24 (.iaddr 5 (.t 22) (.t 23)), o 25 (.load (some 5) (.t 24)), o 26 (.iaddr 5 (.t 14) (.t 15)), oz none none [21, 25] (.store 5 (.t 26) (.t 21)), o 27 (.iaddr 5 (.t 16) (.t 17)), oz none none [25] (.store 5 (.t 27) (.t 25))]))) (.kp [0, 2, 3] (.ops [o 10 (.mv (.t 2)), o 11 (.bin .add 0 (.t 10) (.k (.i .i64 1))), o 12 (.mv (.t 3)), o 13 (.bin .sub 0 (.t 12) (.k (.i .i64 1))), o 2 (.mv (.t 11)), o 3 (.mv (.t 13))]))))
def Qg.c0 : C := .loop 1 [0, 2, 3] Qg.d0
def Qg.B : C := (.seq (.kp [0, 2, 3] (.ops [o 4 (.mv (.t 0)), o 5 (.len false (.t 4)), o 6 (.bin .sub 0 (.t 5) (.k (.i .i64 1))), o 2 (.mv (.k (.i .i64 0))), o 3 (.mv (.t 6))])) (.blk 0 Qg.c0))
def Qg.F : V.Fn := ⟨1, Qg.B, []⟩
def Qu.c0 : C := (.seq (.kp [6] (.ops [o 41 (.mv (.t 6)), o 42 (.call 102 [true] [.t 41])])) (.seq (.kp [4, 5] (.ops [o 43 (.mv (.t 6)), o 4 (.mv (.t 43)), o 5 (.mv (.k (.b true)))])) C.ret))
def Qu.d1 : C := (.seq (.kp [6, 7, 18, 19, 20, 21] (.ops [o 21 (.bin .lss 0 (.t 20) (.t 19))])) (.seq (.cond (.t 21) C.skip (.exit 0)) (.seq (.blk 1 (.seq (.kp [6, 7, 9, 18, 19, 20] (.ops [o 22 (.iaddr 5 (.t 18) (.t 20)), o 23 (.load (some 5) (.t 22)), o 9 (.alloc [.i .i64 0, .deep false false 1 [], .i .i64 0, .i .i64 0, .i .i64 0]), oz none none [23] (.store 5 (.t 9) (.t 23))])) (.seq (.kp [6, 7, 9, 10, 11, 18, 19, 20] (.ops [o 25 (.mv (.t 7)), o 26 (.load (some 5) (.t 9)), o 27 (.call 100 [false, false] [.t 25, .t 26]), o 24 (.mv (.t 27)), o 28 (.ext 0 (.t 24)), o 29 (.ext 1 (.t 24)), o 10 (.mv (.t 28)), o 11 (.mv (.t 29))])) (.seq (.seq (.kp [6, 7, 9, 10, 18, 19, 20, 31] (.ops [o 30 (.mv (.t 11)), o 31 (.bin .neq 0 (.t 30) (.k (.i .i64 0)))])) (.cond (.t 31) (.seq (.kp [4, 5] (.ops [o 32 (.lit 5 0 [.i .i64 0, .deep false false 1 [], .i .i64 0, .i .i64 0, .i .i64 0] []), o 4 (.mv (.t 32)), o 5 (.mv (.k (.b false)))])) C.ret) C.skip)) (.seq (.kp [6, 10, 18, 19, 20] (.ops [o 33 (.mv (.t 6)), o 34 (.mv (.t 7)), o 35 (.load (some 5) (.t 9)), o 36 (.call 101 [false, false] [.t 34, .t 35]), o 37 (.lit 5 1 [.i .i64 0, .deep false false 1 [], .i .i64 0, .i .i64 0, .i .i64 0] [(0, .t 36)]), o 38 (.app 5 56 (.t 33) (.t 37)), o 6 (.mv (.t 38))])) (.kp [6, 7, 18, 19, 20] (.ops [o 39 (.mv (.t 10)), o 7 (.mv (.t 39))]))))))) (.kp [6, 7, 18, 19, 20] (.ops [o 40 (.bin .add 0 (.t 20) (.k (.i .i64 1))), o 20 (.mv (.t 40))])))))
def Qu.c1 : C := .loop 2 [6, 7, 18, 19, 20] Qu.d1
def Qu.B : C := (.seq (.kp [0, 1] (.ops [o 4 (.mv (.k (.nl 5))), o 5 (.mv (.k (.b false)))])) (.seq (.kp [0, 1, 6, 7] (.ops [o 12 (.lit 5 0 [.i .i64 0, .deep false false 1 [], .i .i64 0, .i .i64 0, .i .i64 0] []), o 13 (.mv (.t 0)), o 6 (.mv (.t 12)), o 7 (.mv (.t 13))])) (.seq (.seq (.kp [1, 6, 7, 16] (.ops [o 14 (.mv (.t 0)), o 15 (.call 99 [false] [.t 14]), o 16 (.un .not (.t 15))])) (.cond (.t 16) (.seq (.kp [4, 5] (.ops [o 17 (.mv (.t 6)), o 4 (.mv (.t 17)), o 5 (.mv (.k (.b false)))])) C.ret) C.skip)) (.seq (.seq (.kp [6, 7, 18, 19, 20] (.ops [o 18 (.mv (.t 1)), o 19 (.len false (.t 18)), o 20 (.mv (.k (.i .i64 0)))])) (.blk 0 Qu.c1)) Qu.c0))))
def Qu.F : V.Fn := ⟨2, Qu.B, [.t 4, .t 5]⟩
def QaP.B : C := (.seq (.kp [1, 2] (.ops [o 1 (.boxK (.t 0)), o 2 (.alloc [.deep false false 2 [], .deep false false 1 []]), o 3 (.mv (.k (.b false)))])) (.seq (.kp [1, 2, 4] (.ops [o 7 (.faddr 1 (.t 1)), o 8 (.load none (.t 7)), o 9 (.len false (.t 8)), o 4 (.mv (.t 9))])) (.seq (.seq (.kp [1, 2, 4, 16] (.ops [o 10 (.mv (.t 4)), o 11 (.bin .eql 0 (.t 10) (.k (.i .i64 0))), o 12 (.mv (.t 11)), og 13 12 false (.load (some 2) (.t 1)), og 14 12 false (.call 56 [false] [.t 13]), og 15 12 false (.un .not (.t 14)), o 16 (.pick (.t 12) (.k (.b true)) (.t 15))])) (.cond (.t 16) (.seq (.kp [2, 3] (.ops [o 17 (.load (some 2) (.t 1)), o 18 (.call 54 [false] [.t 17]), oz none none [] (.store 2 (.t 2) (.t 18)), o 3 (.mv (.k (.b false)))])) C.ret) C.skip)) (.seq (.kp [1, 2, 5] (.draw (tk [0, 1, 2, 4, 6, 7] (.alt (tk [3, 5, 8, 9, 10, 11, 12, 13, 14, 15] .done) (tk [5, 8] (.alt (tk [3, 9, 10, 11, 12, 13, 14, 15] .done) (tk [9, 3, 10, 11, 12, 13, 14, 15] .done))))) [o 20 (.load (some 2) (.t 1)), o 21 (.mv (.t 4)), o 22 (.bin .sub 0 (.t 21) (.k (.i .i64 1))), o 23 (.call 68 [false, false] [.t 20, .t 22]), o 24 (.faddr 1 (.t 1)), o 25 (.load none (.t 24)), o 26 (.mv (.t 4)), o 27 (.bin .sub 0 (.t 26) (.k (.i .i64 1))), o 28 (.iaddr 1 (.t 25) (.t 27)), o 29 (.load none (.t 28)), o 30 (.call 67 [false, false] [.t 23, .t 29]), o 19 (.mv (.t 30)), o 31 (.ext 0 (.t 19)), o 32 (.ext 1 (.t 19)), o 5 (.mv (.t 31)), o 6 (.mv (.t 32))])) (.seq (.kp [2, 3] (.ops [o 33 (.load (some 2) (.t 1)), o 34 (.mv (.t 5)), o 35 (.call 24 [false, false] [.t 33, .t 34]), o 36 (.ext 0 (.t 35)), o 37 (.ext 1 (.t 35)), oz none none [] (.store 2 (.t 2) (.t 36)), o 3 (.mv (.t 37))])) C.ret)))))
def QaP.F : V.Fn := ⟨2, QaP.B, [.cell 2 (some 2), .t 3]⟩
def Qar.B : C := (.seq (.kp [1] (.ops [o 1 (.boxK (.t 0)), o 2 (.mv (.k (.b false)))])) (.seq (.kp [1, 3] (.ops [o 3 (.mv (.k (.i .i64 1048576)))])) (.seq (.kp [1, 3] (.ops [o 14 (.load (some 2) (.t 1)), o 15 (.mv (.t 3)), o 16 (.call 19 [false, false] [.t 14, .t 15]), o 3 (.mv (.t 16))])) (.seq (.seq (.kp [1, 18] (.ops [o 17 (.mv (.t 3)), o 18 (.bin .lss 0 (.t 17) (.k (.i .i64 0)))])) (.cond (.t 18) (.seq (.kp [2] (.ops [o 2 (.mv (.k (.b true)))])) C.ret) C.skip)) (.seq (.kp [1, 4, 5] (.ops [o 20 (.load (some 2) (.t 1)), o 21 (.call 22 [false] [.t 20]), o 22 (.call 30 [false] [.t 21]), o 19 (.mv (.t 22)), o 23 (.ext 0 (.t 19)), o 24 (.ext 1 (.t 19)), o 4 (.alloc [.deep false false 2 [], .deep false false 1 []]), oz none none [] (.store 2 (.t 4) (.t 23)), o 5 (.mv (.t 24))])) (.seq (.kp [1, 4, 5, 6] (.ops [o 25 (.load (some 2) (.t 1)), o 26 (.call 22 [false] [.t 25]), o 6 (.alloc [.deep false false 2 [], .deep false false 1 []]), oz none none [] (.store 2 (.t 6) (.t 26))])) (.seq (.kp [1, 4, 5, 6, 7, 8] (.ops [o 28 (.load (some 2) (.t 6)), o 29 (.call 31 [false] [.t 28]), o 27 (.mv (.t 29)), o 30 (.ext 0 (.t 27)), o 31 (.ext 1 (.t 27)), o 7 (.alloc [.deep false false 2 [], .deep false false 1 []]), oz none none [] (.store 2 (.t 7) (.t 30)), o 8 (.mv (.t 31))])) (.seq (.seq (.kp [1, 4, 5, 6, 7, 8, 40] (.ops [o 32 (.load (some 2) (.t 7)), o 33 (.load (some 2) (.t 4)), o 34 (.call 25 [false, false] [.t 32, .t 33]), o 35 (.un .not (.t 34)), o 36 (.mv (.t 35)), og 37 36 false (.mv (.t 8)), og 38 36 false (.mv (.t 5)), og 39 36 false (.bin .neq 1 (.t 37) (.t 38)), o 40 (.pick (.t 36) (.k (.b true)) (.t 39))])) (.cond (.t 40) (.seq (.kp [2] (.ops [o 2 (.mv (.k (.b false)))])) C.ret) C.skip)) (.seq (.seq (.kp [1, 4, 5, 6, 7, 8, 45] (.draw (tk [1] (.alt (tk [0, 2, 3, 4] .done) (tk [2, 0, 3, 4] .done))) [o 41 (.load (some 2) (.t 6)), o 42 (.load (some 2) (.t 1)), o 43 (.call 22 [false] [.t 42]), o 44 (.call 25 [false, false] [.t 41, .t 43]), o 45 (.un .not (.t 44))])) (.cond (.t 45) (.seq (.kp [2] (.ops [o 2 (.mv (.k (.b false)))])) C.ret) C.skip)) (.seq (.kp [1, 4, 5, 6, 7, 8, 9] (.ops [o 9 (.mv (.k (.i .i64 1)))])) (.seq (.kp [1, 4, 5, 7, 8, 9] (.ops [o 46 (.load (some 2) (.t 6)), o 47 (.mv (.t 9)), oz (some 48) none [46] (.call 27 [true, false] [.t 46, .t 47]), o 9 (.mv (.t 48))])) (.seq (.seq (.kp [1, 4, 5, 7, 61] (.ops [o 49 (.mv (.t 9)), o 50 (.bin .lss 0 (.t 49) (.k (.i .i64 0))), o 51 (.mv (.t 50)), og 52 51 false (.load (some 2) (.t 7)), og 53 51 false (.load (some 2) (.t 4)), og 54 51 false (.call 25 [false, false] [.t 52, .t 53]), og 55 51 false (.un .not (.t 54)), o 56 (.pick (.t 51) (.k (.b true)) (.t 55)), o 57 (.mv (.t 56)), og 58 57 false (.mv (.t 8)), og 59 57 false (.mv (.t 5)), og 60 57 false (.bin .neq 1 (.t 58) (.t 59)), o 61 (.pick (.t 57) (.k (.b true)) (.t 60))])) (.cond (.t 61) (.seq (.kp [2] (.ops [o 2 (.mv (.k (.b false)))])) C.ret) C.skip)) (.seq (.kp [1, 4, 5, 7, 10] (.ops [o 10 (.mv (.k (.i .i64 1)))])) (.seq (.kp [1, 4, 5, 7, 10] (.ops [o 62 (.load (some 2) (.t 7)), o 63 (.mv (.t 10)), oz (some 64) none [62] (.call 27 [true, false] [.t 62, .t 63]), o 10 (.mv (.t 64))])) (.seq (.kp [1, 4, 5, 7, 10, 11] (.ops [o 11 (.mv (.k (.i .i64 1)))])) (.seq (.kp [1, 4, 5, 7, 10, 11] (.ops [o 65 (.load (some 2) (.t 7)), o 66 (.mv (.t 11)), o 67 (.call 29 [false, false] [.t 65, .t 66]), o 11 (.mv (.t 67))])) (.seq (.seq (.kp [1, 4, 5, 7, 10, 11, 69] (.ops [o 68 (.mv (.t 11)), o 69 (.bin .lss 0 (.t 68) (.k (.i .i64 0)))])) (.cond (.t 69) (.seq (.kp [2] (.ops [o 2 (.mv (.k (.b false)))])) C.ret) C.skip)) (.seq (.seq (.kp [1, 4, 5, 7, 10, 72] (.ops [o 70 (.mv (.t 11)), o 71 (.mv (.t 10)), o 72 (.bin .neq 0 (.t 70) (.t 71))])) (.cond (.t 72) (.seq (.kp [2] (.ops [o 2 (.mv (.k (.b false)))])) C.ret) C.skip)) (.seq (.kp [4, 5, 7, 10, 12, 13] (.ops [o 74 (.load (some 2) (.t 1)), o 75 (.call 22 [false] [.t 74]), o 76 (.call 31 [false] [.t 75]), o 73 (.mv (.t 76)), o 77 (.ext 0 (.t 73)), o 78 (.ext 1 (.t 73)), o 12 (.alloc [.deep false false 2 [], .deep false false 1 []]), oz none none [] (.store 2 (.t 12) (.t 77)), o 13 (.mv (.t 78))])) (.seq (.seq (.kp [7, 10, 87] (.ops [o 79 (.load (some 2) (.t 12)), o 80 (.load (some 2) (.t 4)), o 81 (.call 25 [false, false] [.t 79, .t 80]), o 82 (.un .not (.t 81)), o 83 (.mv (.t 82)), og 84 83 false (.mv (.t 13)), og 85 83 false (.mv (.t 5)), og 86 83 false (.bin .neq 1 (.t 84) (.t 85)), o 87 (.pick (.t 83) (.k (.b true)) (.t 86))])) (.cond (.t 87) (.seq (.kp [2] (.ops [o 2 (.mv (.k (.b false)))])) C.ret) C.skip)) (.seq (.kp [7, 10, 11] (.ops [o 11 (.mv (.k (.i .i64 1)))])) (.seq (.kp [10, 11] (.ops [o 88 (.load (some 2) (.t 7)), o 89 (.mv (.t 11)), o 90 (.call 29 [false, false] [.t 88, .t 89]), o 11 (.mv (.t 90))])) (.seq (.seq (.kp [10, 11, 92] (.ops [o 91 (.mv (.t 11)), o 92 (.bin .lss 0 (.t 91) (.k (.i .i64 0)))])) (.cond (.t 92) (.seq (.kp [2] (.ops [o 2 (.mv (.k (.b false)))])) C.ret) C.skip)) (.seq (.seq (.kp [95] (.ops [o 93 (.mv (.t 11)), o 94 (.mv (.t 10)), o 95 (.bin .neq 0 (.t 93) (.t 94))])) (.cond (.t 95) (.seq (.kp [2] (.ops [o 2 (.mv (.k (.b false)))])) C.ret) C.skip)) (.seq (.kp [2] (.ops [o 2 (.mv (.k (.b true)))])) C.ret)))))))))))))))))))))))))
def Qar.F : V.Fn := ⟨2, Qar.B, [.t 2]⟩
def tab : List (Nat × V.Fn) := [(45, Qa5.F), (84, Qa9.F), (47, QbA.F), (20, Qae.F), (46, Q4.F), (19, Qba.F), (88, Qbg.F), (51, QZ.F), (89, Qab.F), (53, QbD.F), (23, Qai.F), (52, Qaa.F), (22, Qbh.F), (85, Qam.F), (49, QX.F), (48, QK.F), (33, Qao.F), (71, QaD.F), (86, Qw.F), (131, Qbo.F), (118, Q7.F), (120, QN.F), (116, QV.F), (117, Qq.F), (119, Qx.F), (97, QaK.F), (73, Qt.F), (127, QY.F), (111, Qbz.F), (87, QI.F), (50, QA.F), (21, QaU.F), (90, Qp.F), (112, Qn.F), (91, Qa.F), (113, Qad.F), (92, Qbj.F), (55, Q8.F), (54, QD.F), (37, Qaf.F), (107, QaE.F), (108, QaW.F), (99, QB.F), (134, QaV.F), (123, Q9.F), (126, QO.F), (121, QW.F), (122, Qv.F), (124, Qal.F), (125, Qak.F), (100, Qh.F), (79, QE.F), (137, QaH.F), (139, Qi.F), (136, Qac.F), (130, QbB.F), (129, Qau.F), (135, Qd.F), (128, QT.F), (114, QaO.F), (93, Qo.F), (56, QaL.F), (24, QaX.F), (94, Qbi.F), (57, QS.F), (95, Q6.F), (59, QbE.F), (26, Qag.F), (58, Q5.F), (25, QaR.F), (60, QF.F), (62, QM.F), (28, Q1.F), (61, QR.F), (27, QaG.F), (63, Qz.F), (115, QH.F), (96, QC.F), (64, QJ.F), (29, QaN.F), (6, Qb9.F), (66, Q3.F), (98, QaT.F), (65, Q2.F), (30, QaM.F), (68, Qbb.F), (101, QaS.F), (102, Qg.F), (67, Qu.F), (31, QaP.F), (7, Qar.F)]
def env : V.Env := ⟨fun f => tab.lookup f, fun _ => none⟩
end Go.Proofs.Ytinlbiphjgpmmaa.P
end
section
namespace Go.Proofs.Ytinlbiphjgpmmaa.P
open Go Go.RowKit Go.Proofs.Ytinlbiphjgpmmaa.V
def Qa5.f (l0 : List QcI) (a1 : Int) : Option Int := if (wrap64 (a1 - (l0.length : Int))) < 0 then (some (-1)) else (some (wrap64 (a1 - (l0.length : Int))))
theorem Qa5.link {l0 : List QcI} {a1 : Int} {r : Int} (H : Qa5.f l0 a1 = some r) : Qat env 45 [.deep false true 2 (l0.map QcH), .i .i64 a1] = some ([.i .i64 r], [none]) := by
 unfold Qa5.f at H
 refine Qy (F := Qa5.F) (tm := Qaw [(0, .slc 0 [] 0 2 0 l0.length), (1, .i .i64 a1)]) (rs := rsL [(0, some ⟨false, 2, 0, (l0.map QcH)⟩)]) (nx := 1) (ow := [false]) rfl (by rfl) (by simp only [SN]) (by simp only [SN]) (by decide) ?_
 show W env Qa5.B _ (Qf [.t 4] [false] _)
 unfold Qa5.B
 try simp only [TN, simprocAttr]
 rcases QP H with ⟨h1, H⟩ | ⟨h1, H⟩
 ·skip
  injection H with H; subst H
  try simp only [TN, simprocAttr, h1]
  try rfl
 ·skip
  injection H with H; subst H
  try simp only [TN, simprocAttr, h1]
  try rfl
end Go.Proofs.Ytinlbiphjgpmmaa.P
end
section
namespace Go.Proofs.Ytinlbiphjgpmmaa.P
open Go Go.RowKit Go.Proofs.Ytinlbiphjgpmmaa.V
def Qa9.f (l0 : List Int) (a1 : Int) : Option Int := if (wrap64 (a1 - (l0.length : Int))) < 0 then (some (-1)) else (some (wrap64 (a1 - (l0.length : Int))))
theorem Qa9.link {l0 : List Int} {a1 : Int} {r : Int} (H : Qa9.f l0 a1 = some r) : Qat env 84 [.deep false true 1 (l0.map eI), .i .i64 a1] = some ([.i .i64 r], [none]) := by
 unfold Qa9.f at H
 refine Qy (F := Qa9.F) (tm := Qaw [(0, .slc 0 [] 0 1 0 l0.length), (1, .i .i64 a1)]) (rs := rsL [(0, some ⟨false, 1, 0, (l0.map eI)⟩)]) (nx := 1) (ow := [false]) rfl (by rfl) (by simp only [SN]) (by simp only [SN]) (by decide) ?_
 show W env Qa9.B _ (Qf [.t 4] [false] _)
 unfold Qa9.B
 try simp only [TN, simprocAttr]
 rcases QP H with ⟨h1, H⟩ | ⟨h1, H⟩
 ·skip
  injection H with H; subst H
  try simp only [TN, simprocAttr, h1]
  try rfl
 ·skip
  injection H with H; subst H
  try simp only [TN, simprocAttr, h1]
  try rfl
end Go.Proofs.Ytinlbiphjgpmmaa.P
end
section
namespace Go.Proofs.Ytinlbiphjgpmmaa.P
open Go Go.RowKit Go.Proofs.Ytinlbiphjgpmmaa.V
def QbA.f (a0_0 : Int) (l0_1 : List Int) (a0_2 : Int) (a0_3 : Int) (a0_4 : Int) (a1 : Int) : Option Int := (Qa9.f l0_1 a1).bind fun t1 => (if t1 < 0 then (some (-1)) else (some t1))
theorem QbA.link {a0_0 : Int} {l0_1 : List Int} {a0_2 : Int} {a0_3 : Int} {a0_4 : Int} {a1 : Int} {r : Int} (H : QbA.f a0_0 l0_1 a0_2 a0_3 a0_4 a1 = some r) : Qat env 47 [.agg [.i .i64 a0_0, .deep false true 1 (l0_1.map eI), .i .i64 a0_2, .i .i64 a0_3, .i .i64 a0_4], .i .i64 a1] = some ([.i .i64 r], [none]) := by
 unfold QbA.f at H
 refine Qy (F := QbA.F) (tm := Qaw [(0, .agg [.i .i64 a0_0, .slc 0 [] 0 1 0 l0_1.length, .i .i64 a0_2, .i .i64 a0_3, .i .i64 a0_4]), (1, .i .i64 a1)]) (rs := rsL [(0, some ⟨false, 1, 0, (l0_1.map eI)⟩)]) (nx := 1) (ow := [false]) rfl (by rfl) (by simp only [SN]) (by simp only [SN]) (by decide) ?_
 show W env QbA.B _ (Qf [.t 4] [false] _)
 unfold QbA.B
 obtain ⟨t1, e1, H⟩ := Qm H
 have e1 := Qa9.link e1
 try simp only [TN, simprocAttr, e1]
 rcases QP H with ⟨h2, H⟩ | ⟨h2, H⟩
 ·skip
  injection H with H; subst H
  try simp only [TN, simprocAttr, e1, h2]
  try rfl
 ·skip
  injection H with H; subst H
  try simp only [TN, simprocAttr, e1, h2]
  try rfl
end Go.Proofs.Ytinlbiphjgpmmaa.P
end
section
namespace Go.Proofs.Ytinlbiphjgpmmaa.P
open Go Go.RowKit Go.Proofs.Ytinlbiphjgpmmaa.V
def Qae.l0 : Nat → (List S81) → Int → Int → Option Int
 | 0, _, _, _ => none
 | k + 1, l0, x1, x5 => if x5 < (l0.length : Int) then (if 0 ≤ x5 then ((QbA.f ((Qa7 l0 x5).f0) ((Qa7 l0 x5).f1) ((Qa7 l0 x5).f2) ((Qa7 l0 x5).f3) ((Qa7 l0 x5).f4) x1).bind fun t1 => (if t1 < 0 then (some (-1)) else (Qae.l0 k l0 t1 (wrap64 (x5 + 1))))) else none) else (some x1)
def Qae.f (k : Nat) (l0 : List S81) (a1 : Int) : Option Int := if (wrap64 (a1 - (l0.length : Int))) < 0 then (some (-1)) else (Qae.l0 k l0 (wrap64 (a1 - (l0.length : Int))) 0)
def Qae.P0 (k : Nat) : Prop := ∀ (l0 : List S81) (x1 : Int) (x5 : Int) (r : Int), Qae.l0 k l0 x1 x5 = some r → ∀ st, canon 1 [0, 1, 5] st = ⟨Qaw [(0, .slc 0 [] 0 5 0 l0.length), (1, .i .i64 x1), (5, .i .i64 x5)], rsL [(0, some ⟨false, 5, 0, (l0.map (e81 true))⟩)], 1⟩ → W env Qae.c1 st (Qb 0 (Qs env Qae.c0 (Qf [.t 4] [false] ([.i .i64 r], [none]))))
theorem Qae.s0 (k : Nat) (ih : Qae.P0 k) : Qae.P0 (k + 1) := by
 intro l0 x1 x5 r H st hst
 rw [Qae.l0] at H
 rw [Qax (show Qae.c1 = C.loop 1 [0, 1, 5] Qae.d1 from rfl), hst]
 unfold Qae.d1
 try simp only [TN, simprocAttr, Qae.c0]
 rcases QP H with ⟨h1, H⟩ | ⟨h1, H⟩
 ·skip
  obtain ⟨h2, H⟩ := Qr H
  obtain ⟨t1, e3, H⟩ := Qm H
  have e3 := QbA.link e3
  try simp only [TN, simprocAttr, Qae.c0, h1, h2, e3]
  rcases QP H with ⟨h4, H⟩ | ⟨h4, H⟩
  ·skip
   injection H with H; subst H
   try simp only [TN, simprocAttr, Qae.c0, h1, h2, e3, h4]
   try rfl
  ·skip
   try simp only [TN, simprocAttr, Qae.c0, h1, h2, e3, h4]
   refine ih _ _ _ _ H _ ?_
   first | (rw [Qc]; done) | (rw [Qc]; rfl) | (rw [Qc]; simp only [List.length_set, List.length_append, List.length_replicate]; rfl)
 ·skip
  injection H with H; subst H
  try simp only [TN, simprocAttr, Qae.c0, h1]
  try rfl
theorem Qae.w : ∀ k, Qae.P0 k := by
 intro k
 induction k with
 | zero => exact by intro l0 x1 x5 r H; cases (show (none : Option Int) = some r from H)
 | succ k ih => exact Qae.s0 k ih
theorem Qae.link {k : Nat} {l0 : List S81} {a1 : Int} {r : Int} (H : Qae.f k l0 a1 = some r) : Qat env 20 [.deep false true 5 (l0.map (e81 true)), .i .i64 a1] = some ([.i .i64 r], [none]) := by
 unfold Qae.f at H
 refine Qy (F := Qae.F) (tm := Qaw [(0, .slc 0 [] 0 5 0 l0.length), (1, .i .i64 a1)]) (rs := rsL [(0, some ⟨false, 5, 0, (l0.map (e81 true))⟩)]) (nx := 1) (ow := [false]) rfl (by rfl) (by simp only [SN]) (by simp only [SN]) (by decide) ?_
 show W env Qae.B _ (Qf [.t 4] [false] _)
 unfold Qae.B
 try simp only [TN, simprocAttr, Qae.c0]
 rcases QP H with ⟨h1, H⟩ | ⟨h1, H⟩
 ·skip
  injection H with H; subst H
  try simp only [TN, simprocAttr, Qae.c0, h1]
  try rfl
 ·skip
  try simp only [TN, simprocAttr, Qae.c0, h1]
  refine (Qae.w k) _ _ _ _ H _ ?_
  first | (rw [Qc]; done) | (rw [Qc]; rfl) | (rw [Qc]; simp only [List.length_set, List.length_append, List.length_replicate]; rfl)
end Go.Proofs.Ytinlbiphjgpmmaa.P
end
section
namespace Go.Proofs.Ytinlbiphjgpmmaa.P
open Go Go.RowKit Go.Proofs.Ytinlbiphjgpmmaa.V
def Q4.l0 : Nat → (List (List S81)) → Int → Int → Option Int
 | 0, _, _, _ => none
 | k + 1, l0, x1, x5 => if x5 < (l0.length : Int) then (if 0 ≤ x5 then ((Qae.f k (rdL l0 x5) x1).bind fun t1 => (if t1 < 0 then (some (-1)) else (Q4.l0 k l0 t1 (wrap64 (x5 + 1))))) else none) else (some x1)
def Q4.f (k : Nat) (l0 : List (List S81)) (a1 : Int) : Option Int := if (wrap64 (a1 - (l0.length : Int))) < 0 then (some (-1)) else (Q4.l0 k l0 (wrap64 (a1 - (l0.length : Int))) 0)
def Q4.P0 (k : Nat) : Prop := ∀ (l0 : List (List S81)) (x1 : Int) (x5 : Int) (r : Int), Q4.l0 k l0 x1 x5 = some r → ∀ st, canon 1 [0, 1, 5] st = ⟨Qaw [(0, .slc 0 [] 0 1 0 l0.length), (1, .i .i64 x1), (5, .i .i64 x5)], rsL [(0, some ⟨false, 1, 0, (l0.map (eL 5 true (e81 true)))⟩)], 1⟩ → W env Q4.c1 st (Qb 0 (Qs env Q4.c0 (Qf [.t 4] [false] ([.i .i64 r], [none]))))
theorem Q4.s0 (k : Nat) (ih : Q4.P0 k) : Q4.P0 (k + 1) := by
 intro l0 x1 x5 r H st hst
 rw [Q4.l0] at H
 rw [Qax (show Q4.c1 = C.loop 1 [0, 1, 5] Q4.d1 from rfl), hst]
 unfold Q4.d1
 try simp only [TN, simprocAttr, Q4.c0]
 rcases QP H with ⟨h1, H⟩ | ⟨h1, H⟩
 ·skip
  obtain ⟨h2, H⟩ := Qr H
  obtain ⟨t1, e3, H⟩ := Qm H
  have e3 := Qae.link e3
  try simp only [TN, simprocAttr, Q4.c0, h1, h2, e3]
  rcases QP H with ⟨h4, H⟩ | ⟨h4, H⟩
  ·skip
   injection H with H; subst H
   try simp only [TN, simprocAttr, Q4.c0, h1, h2, e3, h4]
   try rfl
  ·skip
   try simp only [TN, simprocAttr, Q4.c0, h1, h2, e3, h4]
   refine ih _ _ _ _ H _ ?_
   first | (rw [Qc]; done) | (rw [Qc]; rfl) | (rw [Qc]; simp only [List.length_set, List.length_append, List.length_replicate]; rfl)
 ·skip
  injection H with H; subst H
  try simp only [TN, simprocAttr, Q4.c0, h1]
  try rfl
theorem Q4.w : ∀ k, Q4.P0 k := by
 intro k
 induction k with
 | zero => exact by intro l0 x1 x5 r H; cases (show (none : Option Int) = some r from H)
 | succ k ih => exact Q4.s0 k ih
theorem Q4.link {k : Nat} {l0 : List (List S81)} {a1 : Int} {r : Int} (H : Q4.f k l0 a1 = some r) : Qat env 46 [.deep false true 1 (l0.map (eL 5 true (e81 true))), .i .i64 a1] = some ([.i .i64 r], [none]) := by
 unfold Q4.f at H
 refine Qy (F := Q4.F) (tm := Qaw [(0, .slc 0 [] 0 1 0 l0.length), (1, .i .i64 a1)]) (rs := rsL [(0, some ⟨false, 1, 0, (l0.map (eL 5 true (e81 true)))⟩)]) (nx := 1) (ow := [false]) rfl (by rfl) (by simp only [SN]) (by simp only [SN]) (by decide) ?_
 show W env Q4.B _ (Qf [.t 4] [false] _)
 unfold Q4.B
 try simp only [TN, simprocAttr, Q4.c0]
 rcases QP H with ⟨h1, H⟩ | ⟨h1, H⟩
 ·skip
  injection H with H; subst H
  try simp only [TN, simprocAttr, Q4.c0, h1]
  try rfl
 ·skip
  try simp only [TN, simprocAttr, Q4.c0, h1]
  refine (Q4.w k) _ _ _ _ H _ ?_
  first | (rw [Qc]; done) | (rw [Qc]; rfl) | (rw [Qc]; simp only [List.length_set, List.length_append, List.length_replicate]; rfl)
end Go.Proofs.Ytinlbiphjgpmmaa.P
end
section
namespace Go.Proofs.Ytinlbiphjgpmmaa.P
open Go Go.RowKit Go.Proofs.Ytinlbiphjgpmmaa.V
def Qba.f (k : Nat) (l0_0 : List QcI) (l0_1 : List (List S81)) (a1 : Int) : Option Int := (Qa5.f l0_0 a1).bind fun t1 => (if t1 < 0 then (some (-1)) else ((Q4.f k l0_1 t1).bind fun t2 => (if t2 < 0 then (some (-1)) else (some t2))))
theorem Qba.link {k : Nat} {l0_0 : List QcI} {l0_1 : List (List S81)} {a1 : Int} {r : Int} (H : Qba.f k l0_0 l0_1 a1 = some r) : Qat env 19 [.agg [.deep false true 2 (l0_0.map QcH), .deep false true 1 (l0_1.map (eL 5 true (e81 true)))], .i .i64 a1] = some ([.i .i64 r], [none, none]) := by
 unfold Qba.f at H
 refine Qy (F := Qba.F) (tm := Qaw [(0, .agg [.slc 0 [] 0 2 0 l0_0.length, .slc 1 [] 0 1 0 l0_1.length]), (1, .i .i64 a1)]) (rs := rsL [(0, some ⟨false, 2, 0, (l0_0.map QcH)⟩), (1, some ⟨false, 1, 0, (l0_1.map (eL 5 true (e81 true)))⟩)]) (nx := 2) (ow := [false, false]) rfl (by rfl) (by simp only [SN]) (by simp only [SN]) (by decide) ?_
 show W env Qba.B _ (Qf [.t 4] [false, false] _)
 unfold Qba.B
 obtain ⟨t1, e1, H⟩ := Qm H
 have e1 := Qa5.link e1
 try simp only [TN, simprocAttr, e1]
 rcases QP H with ⟨h2, H⟩ | ⟨h2, H⟩
 ·skip
  injection H with H; subst H
  try simp only [TN, simprocAttr, e1, h2]
  try rfl
 ·skip
  obtain ⟨t2, e3, H⟩ := Qm H
  have e3 := Q4.link e3
  try simp only [TN, simprocAttr, e1, h2, e3]
  rcases QP H with ⟨h4, H⟩ | ⟨h4, H⟩
  ·skip
   injection H with H; subst H
   try simp only [TN, simprocAttr, e1, h2, e3, h4]
   try rfl
  ·skip
   injection H with H; subst H
   try simp only [TN, simprocAttr, e1, h2, e3, h4]
   try rfl
end Go.Proofs.Ytinlbiphjgpmmaa.P
end
section
namespace Go.Proofs.Ytinlbiphjgpmmaa.P
open Go Go.RowKit Go.Proofs.Ytinlbiphjgpmmaa.V
def Qbg.f (a0_0 : Int) (a0_1 : Int) : Option (Int × Int) := some (a0_0, a0_1)
theorem Qbg.link {a0_0 : Int} {a0_1 : Int} {r : Int × Int} (H : Qbg.f a0_0 a0_1 = some r) : Qat env 88 [.agg [.i .i64 a0_0, .i .i64 a0_1]] = some ([.agg [.i .i64 r.1, .i .i64 r.2]], []) := by
 unfold Qbg.f at H
 refine Qy (F := Qbg.F) (tm := Qaw [(0, .agg [.i .i64 a0_0, .i .i64 a0_1])]) (rs := rsL []) (nx := 0) (ow := []) rfl (by rfl) (by simp only [SN]) (by simp only [SN]) (by decide) ?_
 show W env Qbg.B _ (Qf [.cell 2 (some 2)] [] _)
 unfold Qbg.B
 injection H with H; subst H
 try simp only [TN, simprocAttr]
 try rfl
end Go.Proofs.Ytinlbiphjgpmmaa.P
end
section
namespace Go.Proofs.Ytinlbiphjgpmmaa.P
open Go Go.RowKit Go.Proofs.Ytinlbiphjgpmmaa.V
def QZ.l0 : Nat → (List QcI) → (List QQ) → Int → Option (List QQ)
 | 0, _, _, _ => none
 | k + 1, l0, x3, x4 => if x4 < (l0.length : Int) then (if 0 ≤ x4 then ((Qbg.f ((QcM l0 x4).f0) ((QcM l0 x4).f1)).bind fun bt1 => (if x4 < (x3.length : Int) then (QZ.l0 k l0 (x3.set (x4 : Int).toNat (⟨bt1.1, bt1.2⟩ : QQ)) (wrap64 (x4 + 1))) else none)) else none) else (some x3)
def QZ.f (k : Nat) (l0 : List QcI) : Option (List QQ) := if 0 ≤ (l0.length : Int) then (if (l0.length : Int) * 16 ≤ 140737488355328 then (QZ.l0 k l0 (List.replicate ((l0.length : Int) : Int).toNat Qca) 0) else none) else none
def QZ.P0 (k : Nat) : Prop := ∀ (l0 : List QcI) (x3 : List QQ) (x4 : Int) (r : (List QQ)), QZ.l0 k l0 x3 x4 = some r → ∀ st, canon 1 [0, 3, 4] st = ⟨Qaw [(0, .slc 0 [] 0 2 0 l0.length), (3, .slc 1 [] 0 2 0 x3.length), (4, .i .i64 x4)], rsL [(0, some ⟨false, 2, 0, (l0.map QcH)⟩), (1, some ⟨true, 2, 0, (x3.map QaA)⟩)], 2⟩ → W env QZ.c1 st (Qb 0 (Qs env QZ.c0 (Qf [.t 2] [false] ([.deep false false 2 (r.map QaA)], [none]))))
theorem QZ.s0 (k : Nat) (ih : QZ.P0 k) : QZ.P0 (k + 1) := by
 intro l0 x3 x4 r H st hst
 rw [QZ.l0] at H
 rw [Qax (show QZ.c1 = C.loop 1 [0, 3, 4] QZ.d1 from rfl), hst]
 unfold QZ.d1
 try simp only [TN, simprocAttr, QZ.c0]
 rcases QP H with ⟨h1, H⟩ | ⟨h1, H⟩
 ·skip
  obtain ⟨h2, H⟩ := Qr H
  obtain ⟨bt1, e3, H⟩ := Qm H
  have e3 := Qbg.link e3
  obtain ⟨h4, H⟩ := Qr H
  try simp only [TN, simprocAttr, QZ.c0, h1, h2, e3, h4]
  refine ih _ _ _ _ H _ ?_
  first | (rw [Qc]; done) | (rw [Qc]; rfl) | (rw [Qc]; simp only [List.length_set, List.length_append, List.length_replicate]; rfl)
 ·skip
  injection H with H; subst H
  try simp only [TN, simprocAttr, QZ.c0, h1]
  try rfl
theorem QZ.w : ∀ k, QZ.P0 k := by
 intro k
 induction k with
 | zero => exact by intro l0 x3 x4 r H; cases (show (none : Option (List QQ)) = some r from H)
 | succ k ih => exact QZ.s0 k ih
theorem QZ.link {k : Nat} {l0 : List QcI} {r : (List QQ)} (H : QZ.f k l0 = some r) : Qat env 51 [.deep false true 2 (l0.map QcH)] = some ([.deep false false 2 (r.map QaA)], [none]) := by
 unfold QZ.f at H
 refine Qy (F := QZ.F) (tm := Qaw [(0, .slc 0 [] 0 2 0 l0.length)]) (rs := rsL [(0, some ⟨false, 2, 0, (l0.map QcH)⟩)]) (nx := 1) (ow := [false]) rfl (by rfl) (by simp only [SN]) (by simp only [SN]) (by decide) ?_
 show W env QZ.B _ (Qf [.t 2] [false] _)
 unfold QZ.B
 obtain ⟨h1, H⟩ := Qr H
 obtain ⟨h2, H⟩ := Qr H
 try simp only [TN, simprocAttr, QZ.c0, h1, h2, @QzL]
 refine (QZ.w k) _ _ _ _ H _ ?_
 first | (rw [Qc]; done) | (rw [Qc]; rfl) | (rw [Qc]; simp only [List.length_set, List.length_append, List.length_replicate]; rfl)
end Go.Proofs.Ytinlbiphjgpmmaa.P
end
section
namespace Go.Proofs.Ytinlbiphjgpmmaa.P
open Go Go.RowKit Go.Proofs.Ytinlbiphjgpmmaa.V
def Qab.l0 : Nat → (List Int) → (List Int) → Int → Option (List Int)
 | 0, _, _, _ => none
 | k + 1, l0, x3, x4 => if x4 < (l0.length : Int) then (if 0 ≤ x4 then (if x4 < (x3.length : Int) then (Qab.l0 k l0 (x3.set (x4 : Int).toNat (rd l0 x4)) (wrap64 (x4 + 1))) else none) else none) else (some x3)
def Qab.f (k : Nat) (l0 : List Int) : Option (List Int) := if 0 ≤ (l0.length : Int) then (if (l0.length : Int) * 8 ≤ 140737488355328 then (Qab.l0 k l0 (List.replicate ((l0.length : Int) : Int).toNat (0 : Int)) 0) else none) else none
def Qab.P0 (k : Nat) : Prop := ∀ (l0 : List Int) (x3 : List Int) (x4 : Int) (r : (List Int)), Qab.l0 k l0 x3 x4 = some r → ∀ st, canon 1 [0, 3, 4] st = ⟨Qaw [(0, .slc 0 [] 0 1 0 l0.length), (3, .slc 1 [] 0 1 0 x3.length), (4, .i .i64 x4)], rsL [(0, some ⟨false, 1, 0, (l0.map eI)⟩), (1, some ⟨true, 1, 0, (x3.map eI)⟩)], 2⟩ → W env Qab.c1 st (Qb 0 (Qs env Qab.c0 (Qf [.t 2] [false] ([.deep false false 1 (r.map eI)], [none]))))
theorem Qab.s0 (k : Nat) (ih : Qab.P0 k) : Qab.P0 (k + 1) := by
 intro l0 x3 x4 r H st hst
 rw [Qab.l0] at H
 rw [Qax (show Qab.c1 = C.loop 1 [0, 3, 4] Qab.d1 from rfl), hst]
 unfold Qab.d1
 try simp only [TN, simprocAttr, Qab.c0]
 rcases QP H with ⟨h1, H⟩ | ⟨h1, H⟩
 ·skip
  obtain ⟨h2, H⟩ := Qr H
  obtain ⟨h3, H⟩ := Qr H
  try simp only [TN, simprocAttr, Qab.c0, h1, h2, h3]
  refine ih _ _ _ _ H _ ?_
  first | (rw [Qc]; done) | (rw [Qc]; rfl) | (rw [Qc]; simp only [List.length_set, List.length_append, List.length_replicate]; rfl)
 ·skip
  injection H with H; subst H
  try simp only [TN, simprocAttr, Qab.c0, h1]
  try rfl
theorem Qab.w : ∀ k, Qab.P0 k := by
 intro k
 induction k with
 | zero => exact by intro l0 x3 x4 r H; cases (show (none : Option (List Int)) = some r from H)
 | succ k ih => exact Qab.s0 k ih
theorem Qab.link {k : Nat} {l0 : List Int} {r : (List Int)} (H : Qab.f k l0 = some r) : Qat env 89 [.deep false true 1 (l0.map eI)] = some ([.deep false false 1 (r.map eI)], [none]) := by
 unfold Qab.f at H
 refine Qy (F := Qab.F) (tm := Qaw [(0, .slc 0 [] 0 1 0 l0.length)]) (rs := rsL [(0, some ⟨false, 1, 0, (l0.map eI)⟩)]) (nx := 1) (ow := [false]) rfl (by rfl) (by simp only [SN]) (by simp only [SN]) (by decide) ?_
 show W env Qab.B _ (Qf [.t 2] [false] _)
 unfold Qab.B
 obtain ⟨h1, H⟩ := Qr H
 obtain ⟨h2, H⟩ := Qr H
 try simp only [TN, simprocAttr, Qab.c0, h1, h2]
 refine (Qab.w k) _ _ _ _ H _ ?_
 first | (rw [Qc]; done) | (rw [Qc]; rfl) | (rw [Qc]; simp only [List.length_set, List.length_append, List.length_replicate]; rfl)
end Go.Proofs.Ytinlbiphjgpmmaa.P
end
section
namespace Go.Proofs.Ytinlbiphjgpmmaa.P
open Go Go.RowKit Go.Proofs.Ytinlbiphjgpmmaa.V
def QbD.f (k : Nat) (a0_0 : Int) (l0_1 : List Int) (a0_2 : Int) (a0_3 : Int) (a0_4 : Int) : Option (Int × (List Int) × Int × Int × Int) := (Qab.f k l0_1).bind fun t1 => (some (a0_0, t1, a0_2, a0_3, a0_4))
theorem QbD.link {k : Nat} {a0_0 : Int} {l0_1 : List Int} {a0_2 : Int} {a0_3 : Int} {a0_4 : Int} {r : Int × (List Int) × Int × Int × Int} (H : QbD.f k a0_0 l0_1 a0_2 a0_3 a0_4 = some r) : Qat env 53 [.agg [.i .i64 a0_0, .deep false true 1 (l0_1.map eI), .i .i64 a0_2, .i .i64 a0_3, .i .i64 a0_4]] = some ([.agg [.i .i64 r.1, .deep false false 1 (r.2.1.map eI), .i .i64 r.2.2.1, .i .i64 r.2.2.2.1, .i .i64 r.2.2.2.2]], [none]) := by
 unfold QbD.f at H
 refine Qy (F := QbD.F) (tm := Qaw [(0, .agg [.i .i64 a0_0, .slc 0 [] 0 1 0 l0_1.length, .i .i64 a0_2, .i .i64 a0_3, .i .i64 a0_4])]) (rs := rsL [(0, some ⟨false, 1, 0, (l0_1.map eI)⟩)]) (nx := 1) (ow := [false]) rfl (by rfl) (by simp only [SN]) (by simp only [SN]) (by decide) ?_
 show W env QbD.B _ (Qf [.cell 2 (some 5)] [false] _)
 unfold QbD.B
 obtain ⟨t1, e1, H⟩ := Qm H
 have e1 := Qab.link e1
 injection H with H; subst H
 try simp only [TN, simprocAttr, e1]
 try rfl
end Go.Proofs.Ytinlbiphjgpmmaa.P
end
section
namespace Go.Proofs.Ytinlbiphjgpmmaa.P
open Go Go.RowKit Go.Proofs.Ytinlbiphjgpmmaa.V
def Qai.l0 : Nat → (List S81) → (List S87) → Int → Option (List S87)
 | 0, _, _, _ => none
 | k + 1, l0, x3, x4 => if x4 < (l0.length : Int) then (if 0 ≤ x4 then ((QbD.f k ((Qa7 l0 x4).f0) ((Qa7 l0 x4).f1) ((Qa7 l0 x4).f2) ((Qa7 l0 x4).f3) ((Qa7 l0 x4).f4)).bind fun bt1 => (if x4 < (x3.length : Int) then (Qai.l0 k l0 (x3.set (x4 : Int).toNat (⟨bt1.1, bt1.2.1, bt1.2.2.1, bt1.2.2.2.1, bt1.2.2.2.2⟩ : S87)) (wrap64 (x4 + 1))) else none)) else none) else (some x3)
def Qai.f (k : Nat) (l0 : List S81) : Option (List S87) := if 0 ≤ (l0.length : Int) then (if (l0.length : Int) * 56 ≤ 140737488355328 then (Qai.l0 k l0 (List.replicate ((l0.length : Int) : Int).toNat z87) 0) else none) else none
def Qai.P0 (k : Nat) : Prop := ∀ (l0 : List S81) (x3 : List S87) (x4 : Int) (r : (List S87)), Qai.l0 k l0 x3 x4 = some r → ∀ st, canon 1 [0, 3, 4] st = ⟨Qaw [(0, .slc 0 [] 0 5 0 l0.length), (3, .slc 1 [] 0 5 0 x3.length), (4, .i .i64 x4)], rsL [(0, some ⟨false, 5, 0, (l0.map (e81 true))⟩), (1, some ⟨true, 5, 0, (x3.map (e87 false))⟩)], 2⟩ → W env Qai.c1 st (Qb 0 (Qs env Qai.c0 (Qf [.t 2] [false] ([.deep false false 5 (r.map (e87 false))], [none]))))
theorem Qai.s0 (k : Nat) (ih : Qai.P0 k) : Qai.P0 (k + 1) := by
 intro l0 x3 x4 r H st hst
 rw [Qai.l0] at H
 rw [Qax (show Qai.c1 = C.loop 1 [0, 3, 4] Qai.d1 from rfl), hst]
 unfold Qai.d1
 try simp only [TN, simprocAttr, Qai.c0]
 rcases QP H with ⟨h1, H⟩ | ⟨h1, H⟩
 ·skip
  obtain ⟨h2, H⟩ := Qr H
  obtain ⟨bt1, e3, H⟩ := Qm H
  have e3 := QbD.link e3
  obtain ⟨h4, H⟩ := Qr H
  try simp only [TN, simprocAttr, Qai.c0, h1, h2, e3, h4]
  refine ih _ _ _ _ H _ ?_
  first | (rw [Qc]; done) | (rw [Qc]; rfl) | (rw [Qc]; simp only [List.length_set, List.length_append, List.length_replicate]; rfl)
 ·skip
  injection H with H; subst H
  try simp only [TN, simprocAttr, Qai.c0, h1]
  try rfl
theorem Qai.w : ∀ k, Qai.P0 k := by
 intro k
 induction k with
 | zero => exact by intro l0 x3 x4 r H; cases (show (none : Option (List S87)) = some r from H)
 | succ k ih => exact Qai.s0 k ih
theorem Qai.link {k : Nat} {l0 : List S81} {r : (List S87)} (H : Qai.f k l0 = some r) : Qat env 23 [.deep false true 5 (l0.map (e81 true))] = some ([.deep false false 5 (r.map (e87 false))], [none]) := by
 unfold Qai.f at H
 refine Qy (F := Qai.F) (tm := Qaw [(0, .slc 0 [] 0 5 0 l0.length)]) (rs := rsL [(0, some ⟨false, 5, 0, (l0.map (e81 true))⟩)]) (nx := 1) (ow := [false]) rfl (by rfl) (by simp only [SN]) (by simp only [SN]) (by decide) ?_
 show W env Qai.B _ (Qf [.t 2] [false] _)
 unfold Qai.B
 obtain ⟨h1, H⟩ := Qr H
 obtain ⟨h2, H⟩ := Qr H
 try simp only [TN, simprocAttr, Qai.c0, h1, h2, @m87]
 refine (Qai.w k) _ _ _ _ H _ ?_
 first | (rw [Qc]; done) | (rw [Qc]; rfl) | (rw [Qc]; simp only [List.length_set, List.length_append, List.length_replicate]; rfl)
end Go.Proofs.Ytinlbiphjgpmmaa.P
end
section
namespace Go.Proofs.Ytinlbiphjgpmmaa.P
open Go Go.RowKit Go.Proofs.Ytinlbiphjgpmmaa.V
def Qaa.l0 : Nat → (List (List S81)) → (List (List S87)) → Int → Option (List (List S87))
 | 0, _, _, _ => none
 | k + 1, l0, x3, x4 => if x4 < (l0.length : Int) then (if 0 ≤ x4 then ((Qai.f k (rdL l0 x4)).bind fun t1 => (if x4 < (x3.length : Int) then (Qaa.l0 k l0 (x3.set (x4 : Int).toNat t1) (wrap64 (x4 + 1))) else none)) else none) else (some x3)
def Qaa.f (k : Nat) (l0 : List (List S81)) : Option (List (List S87)) := if 0 ≤ (l0.length : Int) then (if (l0.length : Int) * 24 ≤ 140737488355328 then (Qaa.l0 k l0 (List.replicate ((l0.length : Int) : Int).toNat ([] : List S87)) 0) else none) else none
def Qaa.P0 (k : Nat) : Prop := ∀ (l0 : List (List S81)) (x3 : List (List S87)) (x4 : Int) (r : (List (List S87))), Qaa.l0 k l0 x3 x4 = some r → ∀ st, canon 1 [0, 3, 4] st = ⟨Qaw [(0, .slc 0 [] 0 1 0 l0.length), (3, .slc 1 [] 0 1 0 x3.length), (4, .i .i64 x4)], rsL [(0, some ⟨false, 1, 0, (l0.map (eL 5 true (e81 true)))⟩), (1, some ⟨true, 1, 0, (x3.map (eL 5 false (e87 false)))⟩)], 2⟩ → W env Qaa.c1 st (Qb 0 (Qs env Qaa.c0 (Qf [.t 2] [false] ([.deep false false 1 (r.map (eL 5 false (e87 false)))], [none]))))
theorem Qaa.s0 (k : Nat) (ih : Qaa.P0 k) : Qaa.P0 (k + 1) := by
 intro l0 x3 x4 r H st hst
 rw [Qaa.l0] at H
 rw [Qax (show Qaa.c1 = C.loop 1 [0, 3, 4] Qaa.d1 from rfl), hst]
 unfold Qaa.d1
 try simp only [TN, simprocAttr, Qaa.c0]
 rcases QP H with ⟨h1, H⟩ | ⟨h1, H⟩
 ·skip
  obtain ⟨h2, H⟩ := Qr H
  obtain ⟨t1, e3, H⟩ := Qm H
  have e3 := Qai.link e3
  obtain ⟨h4, H⟩ := Qr H
  try simp only [TN, simprocAttr, Qaa.c0, h1, h2, e3, h4]
  refine ih _ _ _ _ H _ ?_
  first | (rw [Qc]; done) | (rw [Qc]; rfl) | (rw [Qc]; simp only [List.length_set, List.length_append, List.length_replicate]; rfl)
 ·skip
  injection H with H; subst H
  try simp only [TN, simprocAttr, Qaa.c0, h1]
  try rfl
theorem Qaa.w : ∀ k, Qaa.P0 k := by
 intro k
 induction k with
 | zero => exact by intro l0 x3 x4 r H; cases (show (none : Option (List (List S87))) = some r from H)
 | succ k ih => exact Qaa.s0 k ih
theorem Qaa.link {k : Nat} {l0 : List (List S81)} {r : (List (List S87))} (H : Qaa.f k l0 = some r) : Qat env 52 [.deep false true 1 (l0.map (eL 5 true (e81 true)))] = some ([.deep false false 1 (r.map (eL 5 false (e87 false)))], [none]) := by
 unfold Qaa.f at H
 refine Qy (F := Qaa.F) (tm := Qaw [(0, .slc 0 [] 0 1 0 l0.length)]) (rs := rsL [(0, some ⟨false, 1, 0, (l0.map (eL 5 true (e81 true)))⟩)]) (nx := 1) (ow := [false]) rfl (by rfl) (by simp only [SN]) (by simp only [SN]) (by decide) ?_
 show W env Qaa.B _ (Qf [.t 2] [false] _)
 unfold Qaa.B
 obtain ⟨h1, H⟩ := Qr H
 obtain ⟨h2, H⟩ := Qr H
 try simp only [TN, simprocAttr, Qaa.c0, h1, h2, QhW (e := (eL 5 false (e87 false))) (z := ([] : List S87)) (zs := [.deep false false 5 []]) rfl]
 refine (Qaa.w k) _ _ _ _ H _ ?_
 first | (rw [Qc]; done) | (rw [Qc]; rfl) | (rw [Qc]; simp only [List.length_set, List.length_append, List.length_replicate]; rfl)
end Go.Proofs.Ytinlbiphjgpmmaa.P
end
section
namespace Go.Proofs.Ytinlbiphjgpmmaa.P
open Go Go.RowKit Go.Proofs.Ytinlbiphjgpmmaa.V
def Qbh.f (k : Nat) (l0_0 : List QcI) (l0_1 : List (List S81)) : Option ((List QQ) × (List (List S87))) := (QZ.f k l0_0).bind fun t1 => ((Qaa.f k l0_1).bind fun t2 => (some (t1, t2)))
theorem Qbh.link {k : Nat} {l0_0 : List QcI} {l0_1 : List (List S81)} {r : (List QQ) × (List (List S87))} (H : Qbh.f k l0_0 l0_1 = some r) : Qat env 22 [.agg [.deep false true 2 (l0_0.map QcH), .deep false true 1 (l0_1.map (eL 5 true (e81 true)))]] = some ([.agg [.deep false false 2 (r.1.map QaA), .deep false false 1 (r.2.map (eL 5 false (e87 false)))]], [none, none]) := by
 unfold Qbh.f at H
 refine Qy (F := Qbh.F) (tm := Qaw [(0, .agg [.slc 0 [] 0 2 0 l0_0.length, .slc 1 [] 0 1 0 l0_1.length])]) (rs := rsL [(0, some ⟨false, 2, 0, (l0_0.map QcH)⟩), (1, some ⟨false, 1, 0, (l0_1.map (eL 5 true (e81 true)))⟩)]) (nx := 2) (ow := [false, false]) rfl (by rfl) (by simp only [SN]) (by simp only [SN]) (by decide) ?_
 show W env Qbh.B _ (Qf [.cell 2 (some 2)] [false, false] _)
 unfold Qbh.B
 obtain ⟨t1, e1, H⟩ := Qm H
 have e1 := QZ.link e1
 obtain ⟨t2, e2, H⟩ := Qm H
 have e2 := Qaa.link e2
 injection H with H; subst H
 try simp only [TN, simprocAttr, e1, e2]
 try rfl
end Go.Proofs.Ytinlbiphjgpmmaa.P
end
section
namespace Go.Proofs.Ytinlbiphjgpmmaa.P
open Go Go.RowKit Go.Proofs.Ytinlbiphjgpmmaa.V
def Qbi.f (a0_0 : Int) (a0_1 : Int) (a1_0 : Int) (a1_1 : Int) : Option Bool := if a0_0 = a1_0 then (if a0_1 = a1_1 then (some true) else (some false)) else (some false)
theorem Qbi.link {a0_0 : Int} {a0_1 : Int} {a1_0 : Int} {a1_1 : Int} {r : Bool} (H : Qbi.f a0_0 a0_1 a1_0 a1_1 = some r) : Qat env 94 [.agg [.i .i64 a0_0, .i .i64 a0_1], .agg [.i .i64 a1_0, .i .i64 a1_1]] = some ([.b r], []) := by
 unfold Qbi.f at H
 refine Qy (F := Qbi.F) (tm := Qaw [(0, .agg [.i .i64 a0_0, .i .i64 a0_1]), (1, .agg [.i .i64 a1_0, .i .i64 a1_1])]) (rs := rsL []) (nx := 0) (ow := []) rfl (by rfl) (by simp only [SN]) (by simp only [SN]) (by decide) ?_
 show W env Qbi.B _ (Qf [.t 4] [] _)
 unfold Qbi.B
 try simp only [TN, simprocAttr]
 rcases QP H with ⟨h1, H⟩ | ⟨h1, H⟩
 ·skip
  try simp only [TN, simprocAttr, eq_true h1]
  rcases QP H with ⟨h2, H⟩ | ⟨h2, H⟩
  ·skip
   injection H with H; subst H
   try simp only [TN, simprocAttr, eq_true h1, eq_true h2]
   try rfl
  ·skip
   injection H with H; subst H
   try simp only [TN, simprocAttr, eq_true h1, h2]
   try rfl
 ·skip
  injection H with H; subst H
  try simp only [TN, simprocAttr, h1]
  try rfl
end Go.Proofs.Ytinlbiphjgpmmaa.P
end
section
namespace Go.Proofs.Ytinlbiphjgpmmaa.P
open Go Go.RowKit Go.Proofs.Ytinlbiphjgpmmaa.V
def QS.l0 : Nat → (List QQ) → (List QQ) → Int → Option Bool
 | 0, _, _, _ => none
 | k + 1, l0, l1, x5 => if x5 < (l0.length : Int) then (if 0 ≤ x5 then (if x5 < (l1.length : Int) then ((Qbi.f ((Qap l0 x5).f0) ((Qap l0 x5).f1) ((Qap l1 x5).f0) ((Qap l1 x5).f1)).bind fun t1 => (if t1 = true then (QS.l0 k l0 l1 (wrap64 (x5 + 1))) else (some false))) else none) else none) else (some true)
def QS.f (k : Nat) (l0 : List QQ) (l1 : List QQ) : Option Bool := if (l0.length : Int) = (l1.length : Int) then (QS.l0 k l0 l1 0) else (some false)
def QS.P0 (k : Nat) : Prop := ∀ (l0 : List QQ) (l1 : List QQ) (x5 : Int) (r : Bool), QS.l0 k l0 l1 x5 = some r → ∀ st, canon 2 [0, 1, 5] st = ⟨Qaw [(0, .slc 0 [] 0 2 0 l0.length), (1, .slc 1 [] 0 2 0 l1.length), (5, .i .i64 x5)], rsL [(0, some ⟨false, 2, 0, (l0.map QaA)⟩), (1, some ⟨false, 2, 0, (l1.map QaA)⟩)], 2⟩ → W env QS.c1 st (Qb 0 (Qs env QS.c0 (Qf [.t 4] [false, false] ([.b r], [none, none]))))
theorem QS.s0 (k : Nat) (ih : QS.P0 k) : QS.P0 (k + 1) := by
 intro l0 l1 x5 r H st hst
 rw [QS.l0] at H
 rw [Qax (show QS.c1 = C.loop 2 [0, 1, 5] QS.d1 from rfl), hst]
 unfold QS.d1
 try simp only [TN, simprocAttr, QS.c0]
 rcases QP H with ⟨h1, H⟩ | ⟨h1, H⟩
 ·skip
  obtain ⟨h2, H⟩ := Qr H
  obtain ⟨h3, H⟩ := Qr H
  obtain ⟨t1, e4, H⟩ := Qm H
  have e4 := Qbi.link e4
  try simp only [TN, simprocAttr, QS.c0, h1, h2, h3, e4]
  rcases Qa1 H with ⟨h5, H⟩ | ⟨h5, H⟩
  ·skip
   try simp only [TN, simprocAttr, QS.c0, h1, h2, h3, e4, h5]
   refine ih _ _ _ _ H _ ?_
   first | (rw [Qc]; done) | (rw [Qc]; rfl) | (rw [Qc]; simp only [List.length_set, List.length_append, List.length_replicate]; rfl)
  ·skip
   injection H with H; subst H
   try simp only [TN, simprocAttr, QS.c0, h1, h2, h3, e4, h5]
   try rfl
 ·skip
  injection H with H; subst H
  try simp only [TN, simprocAttr, QS.c0, h1]
  try rfl
theorem QS.w : ∀ k, QS.P0 k := by
 intro k
 induction k with
 | zero => exact by intro l0 l1 x5 r H; cases (show (none : Option Bool) = some r from H)
 | succ k ih => exact QS.s0 k ih
theorem QS.link {k : Nat} {l0 : List QQ} {l1 : List QQ} {r : Bool} (H : QS.f k l0 l1 = some r) : Qat env 57 [.deep false true 2 (l0.map QaA), .deep false true 2 (l1.map QaA)] = some ([.b r], [none, none]) := by
 unfold QS.f at H
 refine Qy (F := QS.F) (tm := Qaw [(0, .slc 0 [] 0 2 0 l0.length), (1, .slc 1 [] 0 2 0 l1.length)]) (rs := rsL [(0, some ⟨false, 2, 0, (l0.map QaA)⟩), (1, some ⟨false, 2, 0, (l1.map QaA)⟩)]) (nx := 2) (ow := [false, false]) rfl (by rfl) (by simp only [SN]) (by simp only [SN]) (by decide) ?_
 show W env QS.B _ (Qf [.t 4] [false, false] _)
 unfold QS.B
 try simp only [TN, simprocAttr, QS.c0]
 rcases QP H with ⟨h1, H⟩ | ⟨h1, H⟩
 ·skip
  try simp only [TN, simprocAttr, QS.c0, eq_true h1]
  refine (QS.w k) _ _ _ _ H _ ?_
  first | (rw [Qc]; done) | (rw [Qc]; rfl) | (rw [Qc]; simp only [List.length_set, List.length_append, List.length_replicate]; rfl)
 ·skip
  injection H with H; subst H
  try simp only [TN, simprocAttr, QS.c0, h1]
  try rfl
end Go.Proofs.Ytinlbiphjgpmmaa.P
end
section
namespace Go.Proofs.Ytinlbiphjgpmmaa.P
open Go Go.RowKit Go.Proofs.Ytinlbiphjgpmmaa.V
def Q6.l0 : Nat → (List Int) → (List Int) → Int → Option Bool
 | 0, _, _, _ => none
 | k + 1, l0, l1, x5 => if x5 < (l0.length : Int) then (if 0 ≤ x5 then (if x5 < (l1.length : Int) then (if (rd l0 x5) = (rd l1 x5) then (Q6.l0 k l0 l1 (wrap64 (x5 + 1))) else (some false)) else none) else none) else (some true)
def Q6.f (k : Nat) (l0 : List Int) (l1 : List Int) : Option Bool := if (l0.length : Int) = (l1.length : Int) then (Q6.l0 k l0 l1 0) else (some false)
def Q6.P0 (k : Nat) : Prop := ∀ (l0 : List Int) (l1 : List Int) (x5 : Int) (r : Bool), Q6.l0 k l0 l1 x5 = some r → ∀ st, canon 2 [0, 1, 5] st = ⟨Qaw [(0, .slc 0 [] 0 1 0 l0.length), (1, .slc 1 [] 0 1 0 l1.length), (5, .i .i64 x5)], rsL [(0, some ⟨false, 1, 0, (l0.map eI)⟩), (1, some ⟨false, 1, 0, (l1.map eI)⟩)], 2⟩ → W env Q6.c1 st (Qb 0 (Qs env Q6.c0 (Qf [.t 4] [false, false] ([.b r], [none, none]))))
theorem Q6.s0 (k : Nat) (ih : Q6.P0 k) : Q6.P0 (k + 1) := by
 intro l0 l1 x5 r H st hst
 rw [Q6.l0] at H
 rw [Qax (show Q6.c1 = C.loop 2 [0, 1, 5] Q6.d1 from rfl), hst]
 unfold Q6.d1
 try simp only [TN, simprocAttr, Q6.c0]
 rcases QP H with ⟨h1, H⟩ | ⟨h1, H⟩
 ·skip
  obtain ⟨h2, H⟩ := Qr H
  obtain ⟨h3, H⟩ := Qr H
  try simp only [TN, simprocAttr, Q6.c0, h1, h2, h3]
  rcases QP H with ⟨h4, H⟩ | ⟨h4, H⟩
  ·skip
   try simp only [TN, simprocAttr, Q6.c0, h1, h2, h3, eq_true h4]
   refine ih _ _ _ _ H _ ?_
   first | (rw [Qc]; done) | (rw [Qc]; rfl) | (rw [Qc]; simp only [List.length_set, List.length_append, List.length_replicate]; rfl)
  ·skip
   injection H with H; subst H
   try simp only [TN, simprocAttr, Q6.c0, h1, h2, h3, h4]
   try rfl
 ·skip
  injection H with H; subst H
  try simp only [TN, simprocAttr, Q6.c0, h1]
  try rfl
theorem Q6.w : ∀ k, Q6.P0 k := by
 intro k
 induction k with
 | zero => exact by intro l0 l1 x5 r H; cases (show (none : Option Bool) = some r from H)
 | succ k ih => exact Q6.s0 k ih
theorem Q6.link {k : Nat} {l0 : List Int} {l1 : List Int} {r : Bool} (H : Q6.f k l0 l1 = some r) : Qat env 95 [.deep false true 1 (l0.map eI), .deep false true 1 (l1.map eI)] = some ([.b r], [none, none]) := by
 unfold Q6.f at H
 refine Qy (F := Q6.F) (tm := Qaw [(0, .slc 0 [] 0 1 0 l0.length), (1, .slc 1 [] 0 1 0 l1.length)]) (rs := rsL [(0, some ⟨false, 1, 0, (l0.map eI)⟩), (1, some ⟨false, 1, 0, (l1.map eI)⟩)]) (nx := 2) (ow := [false, false]) rfl (by rfl) (by simp only [SN]) (by simp only [SN]) (by decide) ?_
 show W env Q6.B _ (Qf [.t 4] [false, false] _)
 unfold Q6.B
 try simp only [TN, simprocAttr, Q6.c0]
 rcases QP H with ⟨h1, H⟩ | ⟨h1, H⟩
 ·skip
  try simp only [TN, simprocAttr, Q6.c0, eq_true h1]
  refine (Q6.w k) _ _ _ _ H _ ?_
  first | (rw [Qc]; done) | (rw [Qc]; rfl) | (rw [Qc]; simp only [List.length_set, List.length_append, List.length_replicate]; rfl)
 ·skip
  injection H with H; subst H
  try simp only [TN, simprocAttr, Q6.c0, h1]
  try rfl
end Go.Proofs.Ytinlbiphjgpmmaa.P
end
section
namespace Go.Proofs.Ytinlbiphjgpmmaa.P
open Go Go.RowKit Go.Proofs.Ytinlbiphjgpmmaa.V
def QbE.f (k : Nat) (a0_0 : Int) (l0_1 : List Int) (a0_2 : Int) (a0_3 : Int) (a0_4 : Int) (a1_0 : Int) (l1_1 : List Int) (a1_2 : Int) (a1_3 : Int) (a1_4 : Int) : Option Bool := if a0_0 = a1_0 then ((Q6.f k l0_1 l1_1).bind fun t1 => (if t1 = true then (if a0_2 = a1_2 then (if a0_3 = a1_3 then (if a0_4 = a1_4 then (some true) else (some false)) else (some false)) else (some false)) else (some false))) else (some false)
theorem QbE.link {k : Nat} {a0_0 : Int} {l0_1 : List Int} {a0_2 : Int} {a0_3 : Int} {a0_4 : Int} {a1_0 : Int} {l1_1 : List Int} {a1_2 : Int} {a1_3 : Int} {a1_4 : Int} {r : Bool} (H : QbE.f k a0_0 l0_1 a0_2 a0_3 a0_4 a1_0 l1_1 a1_2 a1_3 a1_4 = some r) : Qat env 59 [.agg [.i .i64 a0_0, .deep false true 1 (l0_1.map eI), .i .i64 a0_2, .i .i64 a0_3, .i .i64 a0_4], .agg [.i .i64 a1_0, .deep false true 1 (l1_1.map eI), .i .i64 a1_2, .i .i64 a1_3, .i .i64 a1_4]] = some ([.b r], [none, none]) := by
 unfold QbE.f at H
 refine Qy (F := QbE.F) (tm := Qaw [(0, .agg [.i .i64 a0_0, .slc 0 [] 0 1 0 l0_1.length, .i .i64 a0_2, .i .i64 a0_3, .i .i64 a0_4]), (1, .agg [.i .i64 a1_0, .slc 1 [] 0 1 0 l1_1.length, .i .i64 a1_2, .i .i64 a1_3, .i .i64 a1_4])]) (rs := rsL [(0, some ⟨false, 1, 0, (l0_1.map eI)⟩), (1, some ⟨false, 1, 0, (l1_1.map eI)⟩)]) (nx := 2) (ow := [false, false]) rfl (by rfl) (by simp only [SN]) (by simp only [SN]) (by decide) ?_
 show W env QbE.B _ (Qf [.t 4] [false, false] _)
 unfold QbE.B
 try simp only [TN, simprocAttr]
 rcases QP H with ⟨h1, H⟩ | ⟨h1, H⟩
 ·skip
  obtain ⟨t1, e2, H⟩ := Qm H
  have e2 := Q6.link e2
  try simp only [TN, simprocAttr, eq_true h1, e2]
  rcases Qa1 H with ⟨h3, H⟩ | ⟨h3, H⟩
  ·skip
   try simp only [TN, simprocAttr, eq_true h1, e2, h3]
   rcases QP H with ⟨h4, H⟩ | ⟨h4, H⟩
   ·skip
    try simp only [TN, simprocAttr, eq_true h1, e2, h3, eq_true h4]
    rcases QP H with ⟨h5, H⟩ | ⟨h5, H⟩
    ·skip
     try simp only [TN, simprocAttr, eq_true h1, e2, h3, eq_true h4, eq_true h5]
     rcases QP H with ⟨h6, H⟩ | ⟨h6, H⟩
     ·skip
      injection H with H; subst H
      try simp only [TN, simprocAttr, eq_true h1, e2, h3, eq_true h4, eq_true h5, eq_true h6]
      try rfl
     ·skip
      injection H with H; subst H
      try simp only [TN, simprocAttr, eq_true h1, e2, h3, eq_true h4, eq_true h5, h6]
      try rfl
    ·skip
     injection H with H; subst H
     try simp only [TN, simprocAttr, eq_true h1, e2, h3, eq_true h4, h5]
     try rfl
   ·skip
    injection H with H; subst H
    try simp only [TN, simprocAttr, eq_true h1, e2, h3, h4]
    try rfl
  ·skip
   injection H with H; subst H
   try simp only [TN, simprocAttr, eq_true h1, e2, h3]
   try rfl
 ·skip
  injection H with H; subst H
  try simp only [TN, simprocAttr, h1]
  try rfl
end Go.Proofs.Ytinlbiphjgpmmaa.P
end
section
namespace Go.Proofs.Ytinlbiphjgpmmaa.P
open Go Go.RowKit Go.Proofs.Ytinlbiphjgpmmaa.V
def Qag.l0 : Nat → (List S87) → (List S87) → Int → Option Bool
 | 0, _, _, _ => none
 | k + 1, l0, l1, x5 => if x5 < (l0.length : Int) then (if 0 ≤ x5 then (if x5 < (l1.length : Int) then ((QbE.f k ((QU l0 x5).f0) ((QU l0 x5).f1) ((QU l0 x5).f2) ((QU l0 x5).f3) ((QU l0 x5).f4) ((QU l1 x5).f0) ((QU l1 x5).f1) ((QU l1 x5).f2) ((QU l1 x5).f3) ((QU l1 x5).f4)).bind fun t1 => (if t1 = true then (Qag.l0 k l0 l1 (wrap64 (x5 + 1))) else (some false))) else none) else none) else (some true)
def Qag.f (k : Nat) (l0 : List S87) (l1 : List S87) : Option Bool := if (l0.length : Int) = (l1.length : Int) then (Qag.l0 k l0 l1 0) else (some false)
def Qag.P0 (k : Nat) : Prop := ∀ (l0 : List S87) (l1 : List S87) (x5 : Int) (r : Bool), Qag.l0 k l0 l1 x5 = some r → ∀ st, canon 2 [0, 1, 5] st = ⟨Qaw [(0, .slc 0 [] 0 5 0 l0.length), (1, .slc 1 [] 0 5 0 l1.length), (5, .i .i64 x5)], rsL [(0, some ⟨false, 5, 0, (l0.map (e87 false))⟩), (1, some ⟨false, 5, 0, (l1.map (e87 false))⟩)], 2⟩ → W env Qag.c1 st (Qb 0 (Qs env Qag.c0 (Qf [.t 4] [false, false] ([.b r], [none, none]))))
theorem Qag.s0 (k : Nat) (ih : Qag.P0 k) : Qag.P0 (k + 1) := by
 intro l0 l1 x5 r H st hst
 rw [Qag.l0] at H
 rw [Qax (show Qag.c1 = C.loop 2 [0, 1, 5] Qag.d1 from rfl), hst]
 unfold Qag.d1
 try simp only [TN, simprocAttr, Qag.c0]
 rcases QP H with ⟨h1, H⟩ | ⟨h1, H⟩
 ·skip
  obtain ⟨h2, H⟩ := Qr H
  obtain ⟨h3, H⟩ := Qr H
  obtain ⟨t1, e4, H⟩ := Qm H
  have e4 := QbE.link e4
  try simp only [TN, simprocAttr, Qag.c0, h1, h2, h3, e4]
  rcases Qa1 H with ⟨h5, H⟩ | ⟨h5, H⟩
  ·skip
   try simp only [TN, simprocAttr, Qag.c0, h1, h2, h3, e4, h5]
   refine ih _ _ _ _ H _ ?_
   first | (rw [Qc]; done) | (rw [Qc]; rfl) | (rw [Qc]; simp only [List.length_set, List.length_append, List.length_replicate]; rfl)
  ·skip
   injection H with H; subst H
   try simp only [TN, simprocAttr, Qag.c0, h1, h2, h3, e4, h5]
   try rfl
 ·skip
  injection H with H; subst H
  try simp only [TN, simprocAttr, Qag.c0, h1]
  try rfl
theorem Qag.w : ∀ k, Qag.P0 k := by
 intro k
 induction k with
 | zero => exact by intro l0 l1 x5 r H; cases (show (none : Option Bool) = some r from H)
 | succ k ih => exact Qag.s0 k ih
theorem Qag.link {k : Nat} {l0 : List S87} {l1 : List S87} {r : Bool} (H : Qag.f k l0 l1 = some r) : Qat env 26 [.deep false true 5 (l0.map (e87 false)), .deep false true 5 (l1.map (e87 false))] = some ([.b r], [none, none]) := by
 unfold Qag.f at H
 refine Qy (F := Qag.F) (tm := Qaw [(0, .slc 0 [] 0 5 0 l0.length), (1, .slc 1 [] 0 5 0 l1.length)]) (rs := rsL [(0, some ⟨false, 5, 0, (l0.map (e87 false))⟩), (1, some ⟨false, 5, 0, (l1.map (e87 false))⟩)]) (nx := 2) (ow := [false, false]) rfl (by rfl) (by simp only [SN]) (by simp only [SN]) (by decide) ?_
 show W env Qag.B _ (Qf [.t 4] [false, false] _)
 unfold Qag.B
 try simp only [TN, simprocAttr, Qag.c0]
 rcases QP H with ⟨h1, H⟩ | ⟨h1, H⟩
 ·skip
  try simp only [TN, simprocAttr, Qag.c0, eq_true h1]
  refine (Qag.w k) _ _ _ _ H _ ?_
  first | (rw [Qc]; done) | (rw [Qc]; rfl) | (rw [Qc]; simp only [List.length_set, List.length_append, List.length_replicate]; rfl)
 ·skip
  injection H with H; subst H
  try simp only [TN, simprocAttr, Qag.c0, h1]
  try rfl
end Go.Proofs.Ytinlbiphjgpmmaa.P
end
section
namespace Go.Proofs.Ytinlbiphjgpmmaa.P
open Go Go.RowKit Go.Proofs.Ytinlbiphjgpmmaa.V
def Q5.l0 : Nat → (List (List S87)) → (List (List S87)) → Int → Option Bool
 | 0, _, _, _ => none
 | k + 1, l0, l1, x5 => if x5 < (l0.length : Int) then (if 0 ≤ x5 then (if x5 < (l1.length : Int) then ((Qag.f k (rdL l0 x5) (rdL l1 x5)).bind fun t1 => (if t1 = true then (Q5.l0 k l0 l1 (wrap64 (x5 + 1))) else (some false))) else none) else none) else (some true)
def Q5.f (k : Nat) (l0 : List (List S87)) (l1 : List (List S87)) : Option Bool := if (l0.length : Int) = (l1.length : Int) then (Q5.l0 k l0 l1 0) else (some false)
def Q5.P0 (k : Nat) : Prop := ∀ (l0 : List (List S87)) (l1 : List (List S87)) (x5 : Int) (r : Bool), Q5.l0 k l0 l1 x5 = some r → ∀ st, canon 2 [0, 1, 5] st = ⟨Qaw [(0, .slc 0 [] 0 1 0 l0.length), (1, .slc 1 [] 0 1 0 l1.length), (5, .i .i64 x5)], rsL [(0, some ⟨false, 1, 0, (l0.map (eL 5 false (e87 false)))⟩), (1, some ⟨false, 1, 0, (l1.map (eL 5 false (e87 false)))⟩)], 2⟩ → W env Q5.c1 st (Qb 0 (Qs env Q5.c0 (Qf [.t 4] [false, false] ([.b r], [none, none]))))
theorem Q5.s0 (k : Nat) (ih : Q5.P0 k) : Q5.P0 (k + 1) := by
 intro l0 l1 x5 r H st hst
 rw [Q5.l0] at H
 rw [Qax (show Q5.c1 = C.loop 2 [0, 1, 5] Q5.d1 from rfl), hst]
 unfold Q5.d1
 try simp only [TN, simprocAttr, Q5.c0]
 rcases QP H with ⟨h1, H⟩ | ⟨h1, H⟩
 ·skip
  obtain ⟨h2, H⟩ := Qr H
  obtain ⟨h3, H⟩ := Qr H
  obtain ⟨t1, e4, H⟩ := Qm H
  have e4 := Qag.link e4
  try simp only [TN, simprocAttr, Q5.c0, h1, h2, h3, e4]
  rcases Qa1 H with ⟨h5, H⟩ | ⟨h5, H⟩
  ·skip
   try simp only [TN, simprocAttr, Q5.c0, h1, h2, h3, e4, h5]
   refine ih _ _ _ _ H _ ?_
   first | (rw [Qc]; done) | (rw [Qc]; rfl) | (rw [Qc]; simp only [List.length_set, List.length_append, List.length_replicate]; rfl)
  ·skip
   injection H with H; subst H
   try simp only [TN, simprocAttr, Q5.c0, h1, h2, h3, e4, h5]
   try rfl
 ·skip
  injection H with H; subst H
  try simp only [TN, simprocAttr, Q5.c0, h1]
  try rfl
theorem Q5.w : ∀ k, Q5.P0 k := by
 intro k
 induction k with
 | zero => exact by intro l0 l1 x5 r H; cases (show (none : Option Bool) = some r from H)
 | succ k ih => exact Q5.s0 k ih
theorem Q5.link {k : Nat} {l0 : List (List S87)} {l1 : List (List S87)} {r : Bool} (H : Q5.f k l0 l1 = some r) : Qat env 58 [.deep false true 1 (l0.map (eL 5 false (e87 false))), .deep false true 1 (l1.map (eL 5 false (e87 false)))] = some ([.b r], [none, none]) := by
 unfold Q5.f at H
 refine Qy (F := Q5.F) (tm := Qaw [(0, .slc 0 [] 0 1 0 l0.length), (1, .slc 1 [] 0 1 0 l1.length)]) (rs := rsL [(0, some ⟨false, 1, 0, (l0.map (eL 5 false (e87 false)))⟩), (1, some ⟨false, 1, 0, (l1.map (eL 5 false (e87 false)))⟩)]) (nx := 2) (ow := [false, false]) rfl (by rfl) (by simp only [SN]) (by simp only [SN]) (by decide) ?_
 show W env Q5.B _ (Qf [.t 4] [false, false] _)
 unfold Q5.B
 try simp only [TN, simprocAttr, Q5.c0]
 rcases QP H with ⟨h1, H⟩ | ⟨h1, H⟩
 ·skip
  try simp only [TN, simprocAttr, Q5.c0, eq_true h1]
  refine (Q5.w k) _ _ _ _ H _ ?_
  first | (rw [Qc]; done) | (rw [Qc]; rfl) | (rw [Qc]; simp only [List.length_set, List.length_append, List.length_replicate]; rfl)
 ·skip
  injection H with H; subst H
  try simp only [TN, simprocAttr, Q5.c0, h1]
  try rfl
end Go.Proofs.Ytinlbiphjgpmmaa.P
end
section
namespace Go.Proofs.Ytinlbiphjgpmmaa.P
open Go Go.RowKit Go.Proofs.Ytinlbiphjgpmmaa.V
def QaR.f (k : Nat) (l0_0 : List QQ) (l0_1 : List (List S87)) (l1_0 : List QQ) (l1_1 : List (List S87)) : Option Bool := (QS.f k l0_0 l1_0).bind fun t1 => (if t1 = true then ((Q5.f k l0_1 l1_1).bind fun t2 => (if t2 = true then (some true) else (some false))) else (some false))
theorem QaR.link {k : Nat} {l0_0 : List QQ} {l0_1 : List (List S87)} {l1_0 : List QQ} {l1_1 : List (List S87)} {r : Bool} (H : QaR.f k l0_0 l0_1 l1_0 l1_1 = some r) : Qat env 25 [.agg [.deep false true 2 (l0_0.map QaA), .deep false true 1 (l0_1.map (eL 5 false (e87 false)))], .agg [.deep false true 2 (l1_0.map QaA), .deep false true 1 (l1_1.map (eL 5 false (e87 false)))]] = some ([.b r], [none, none, none, none]) := by
 unfold QaR.f at H
 refine Qy (F := QaR.F) (tm := Qaw [(0, .agg [.slc 0 [] 0 2 0 l0_0.length, .slc 1 [] 0 1 0 l0_1.length]), (1, .agg [.slc 2 [] 0 2 0 l1_0.length, .slc 3 [] 0 1 0 l1_1.length])]) (rs := rsL [(0, some ⟨false, 2, 0, (l0_0.map QaA)⟩), (1, some ⟨false, 1, 0, (l0_1.map (eL 5 false (e87 false)))⟩), (2, some ⟨false, 2, 0, (l1_0.map QaA)⟩), (3, some ⟨false, 1, 0, (l1_1.map (eL 5 false (e87 false)))⟩)]) (nx := 4) (ow := [false, false, false, false]) rfl (by rfl) (by simp only [SN]) (by simp only [SN]) (by decide) ?_
 show W env QaR.B _ (Qf [.t 4] [false, false, false, false] _)
 unfold QaR.B
 obtain ⟨t1, e1, H⟩ := Qm H
 have e1 := QS.link e1
 try simp only [TN, simprocAttr, e1]
 rcases Qa1 H with ⟨h2, H⟩ | ⟨h2, H⟩
 ·skip
  obtain ⟨t2, e3, H⟩ := Qm H
  have e3 := Q5.link e3
  try simp only [TN, simprocAttr, e1, h2, e3]
  rcases Qa1 H with ⟨h4, H⟩ | ⟨h4, H⟩
  ·skip
   injection H with H; subst H
   try simp only [TN, simprocAttr, e1, h2, e3, h4]
   try rfl
  ·skip
   injection H with H; subst H
   try simp only [TN, simprocAttr, e1, h2, e3, h4]
   try rfl
 ·skip
  injection H with H; subst H
  try simp only [TN, simprocAttr, e1, h2]
  try rfl
end Go.Proofs.Ytinlbiphjgpmmaa.P
end
section
namespace Go.Proofs.Ytinlbiphjgpmmaa.P
open Go Go.RowKit Go.Proofs.Ytinlbiphjgpmmaa.V
def QF.l0 : Nat → (List QQ) → Int → Int → Option (Int × (List QQ))
 | 0, _, _, _ => none
 | k + 1, l0, a1, x5 => if x5 < (l0.length : Int) then (if 0 ≤ x5 then ((some (l0.set (x5 : Int).toNat (⟨a1, (Qap l0 x5).f1⟩ : QQ) : List QQ)).bind fun y0 => (QF.l0 k (y0.set (x5 : Int).toNat (⟨(Qap y0 x5).f0, wrap64 (a1 + 1)⟩ : QQ)) (wrap64 ((wrap64 (a1 + 1)) + 1)) (wrap64 (x5 + 1)))) else none) else (some (a1, l0))
def QF.f (k : Nat) (l0 : List QQ) (a1 : Int) : Option (Int × (List QQ)) := QF.l0 k l0 a1 0
def QF.P0 (k : Nat) : Prop := ∀ (l0 : List QQ) (a1 : Int) (x5 : Int) (r : Int × (List QQ)), QF.l0 k l0 a1 x5 = some r → ∀ st, canon 1 [0, 1, 5] st = ⟨Qaw [(0, .slc 0 [] 0 2 0 l0.length), (1, .i .i64 a1), (5, .i .i64 x5)], rsL [(0, some ⟨true, 2, 0, (l0.map QaA)⟩)], 1⟩ → W env QF.c1 st (Qb 0 (Qs env QF.c0 (Qf [.t 4] [true] ([.i .i64 r.1], [some (r.2.map QaA)]))))
theorem QF.s0 (k : Nat) (ih : QF.P0 k) : QF.P0 (k + 1) := by
 intro l0 a1 x5 r H st hst
 rw [QF.l0] at H
 rw [Qax (show QF.c1 = C.loop 1 [0, 1, 5] QF.d1 from rfl), hst]
 unfold QF.d1
 try simp only [TN, simprocAttr, QF.c0]
 rcases QP H with ⟨h1, H⟩ | ⟨h1, H⟩
 ·skip
  obtain ⟨h2, H⟩ := Qr H
  obtain ⟨_, hy3, H⟩ := Qbx H; subst hy3
  try simp only [TN, simprocAttr, QF.c0, h1, h2]
  refine ih _ _ _ _ H _ ?_
  first | (rw [Qc]; done) | (rw [Qc]; rfl) | (rw [Qc]; simp only [List.length_set, List.length_append, List.length_replicate]; rfl)
 ·skip
  injection H with H; subst H
  try simp only [TN, simprocAttr, QF.c0, h1]
  try rfl
theorem QF.w : ∀ k, QF.P0 k := by
 intro k
 induction k with
 | zero => exact by intro l0 a1 x5 r H; cases (show (none : Option (Int × (List QQ))) = some r from H)
 | succ k ih => exact QF.s0 k ih
theorem QF.link {k : Nat} {l0 : List QQ} {a1 : Int} {r : Int × (List QQ)} (H : QF.f k l0 a1 = some r) : Qat env 60 [.deep false false 2 (l0.map QaA), .i .i64 a1] = some ([.i .i64 r.1], [some (r.2.map QaA)]) := by
 unfold QF.f at H
 refine Qy (F := QF.F) (tm := Qaw [(0, .slc 0 [] 0 2 0 l0.length), (1, .i .i64 a1)]) (rs := rsL [(0, some ⟨true, 2, 0, (l0.map QaA)⟩)]) (nx := 1) (ow := [true]) rfl (by rfl) (by simp only [SN]) (by simp only [SN]) (by decide) ?_
 show W env QF.B _ (Qf [.t 4] [true] _)
 unfold QF.B
 try simp only [TN, simprocAttr, QF.c0]
 refine (QF.w k) _ _ _ _ H _ ?_
 first | (rw [Qc]; done) | (rw [Qc]; rfl) | (rw [Qc]; simp only [List.length_set, List.length_append, List.length_replicate]; rfl)
end Go.Proofs.Ytinlbiphjgpmmaa.P
end
section
namespace Go.Proofs.Ytinlbiphjgpmmaa.P
open Go Go.RowKit Go.Proofs.Ytinlbiphjgpmmaa.V
def QM.l0 : Nat → (List Int) → Int → Int → Option (Int × (List Int))
 | 0, _, _, _ => none
 | k + 1, l0, a1, x5 => if x5 < (l0.length : Int) then (if 0 ≤ x5 then (QM.l0 k (l0.set (x5 : Int).toNat a1) (wrap64 (a1 + 1)) (wrap64 (x5 + 1))) else none) else (some (a1, l0))
def QM.f (k : Nat) (l0 : List Int) (a1 : Int) : Option (Int × (List Int)) := QM.l0 k l0 a1 0
def QM.P0 (k : Nat) : Prop := ∀ (l0 : List Int) (a1 : Int) (x5 : Int) (r : Int × (List Int)), QM.l0 k l0 a1 x5 = some r → ∀ st, canon 1 [0, 1, 5] st = ⟨Qaw [(0, .slc 0 [] 0 1 0 l0.length), (1, .i .i64 a1), (5, .i .i64 x5)], rsL [(0, some ⟨true, 1, 0, (l0.map eI)⟩)], 1⟩ → W env QM.c1 st (Qb 0 (Qs env QM.c0 (Qf [.t 4] [true] ([.i .i64 r.1], [some (r.2.map eI)]))))
theorem QM.s0 (k : Nat) (ih : QM.P0 k) : QM.P0 (k + 1) := by
 intro l0 a1 x5 r H st hst
 rw [QM.l0] at H
 rw [Qax (show QM.c1 = C.loop 1 [0, 1, 5] QM.d1 from rfl), hst]
 unfold QM.d1
 try simp only [TN, simprocAttr, QM.c0]
 rcases QP H with ⟨h1, H⟩ | ⟨h1, H⟩
 ·skip
  obtain ⟨h2, H⟩ := Qr H
  try simp only [TN, simprocAttr, QM.c0, h1, h2]
  refine ih _ _ _ _ H _ ?_
  first | (rw [Qc]; done) | (rw [Qc]; rfl) | (rw [Qc]; simp only [List.length_set, List.length_append, List.length_replicate]; rfl)
 ·skip
  injection H with H; subst H
  try simp only [TN, simprocAttr, QM.c0, h1]
  try rfl
theorem QM.w : ∀ k, QM.P0 k := by
 intro k
 induction k with
 | zero => exact by intro l0 a1 x5 r H; cases (show (none : Option (Int × (List Int))) = some r from H)
 | succ k ih => exact QM.s0 k ih
theorem QM.link {k : Nat} {l0 : List Int} {a1 : Int} {r : Int × (List Int)} (H : QM.f k l0 a1 = some r) : Qat env 62 [.deep false false 1 (l0.map eI), .i .i64 a1] = some ([.i .i64 r.1], [some (r.2.map eI)]) := by
 unfold QM.f at H
 refine Qy (F := QM.F) (tm := Qaw [(0, .slc 0 [] 0 1 0 l0.length), (1, .i .i64 a1)]) (rs := rsL [(0, some ⟨true, 1, 0, (l0.map eI)⟩)]) (nx := 1) (ow := [true]) rfl (by rfl) (by simp only [SN]) (by simp only [SN]) (by decide) ?_
 show W env QM.B _ (Qf [.t 4] [true] _)
 unfold QM.B
 try simp only [TN, simprocAttr, QM.c0]
 refine (QM.w k) _ _ _ _ H _ ?_
 first | (rw [Qc]; done) | (rw [Qc]; rfl) | (rw [Qc]; simp only [List.length_set, List.length_append, List.length_replicate]; rfl)
end Go.Proofs.Ytinlbiphjgpmmaa.P
end
section
namespace Go.Proofs.Ytinlbiphjgpmmaa.P
open Go Go.RowKit Go.Proofs.Ytinlbiphjgpmmaa.V
def Q1.l0 : Nat → (List S87) → Int → Int → Option (Int × (List S87))
 | 0, _, _, _ => none
 | k + 1, l0, a1, x5 => if x5 < (l0.length : Int) then (if 0 ≤ x5 then ((some (l0.set (x5 : Int).toNat (⟨a1, (QU l0 x5).f1, (QU l0 x5).f2, (QU l0 x5).f3, (QU l0 x5).f4⟩ : S87) : List S87)).bind fun y0 => ((QM.f k ((QU y0 x5).f1) (wrap64 (a1 + 1))).bind fun bt1 => ((some (y0.set (x5 : Int).toNat (⟨(QU y0 x5).f0, bt1.2, (QU y0 x5).f2, (QU y0 x5).f3, (QU y0 x5).f4⟩ : S87) : List S87)).bind fun y1 => ((some (y1.set (x5 : Int).toNat (⟨(QU y1 x5).f0, (QU y1 x5).f1, bt1.1, (QU y1 x5).f3, (QU y1 x5).f4⟩ : S87) : List S87)).bind fun y2 => ((some (y2.set (x5 : Int).toNat (⟨(QU y2 x5).f0, (QU y2 x5).f1, (QU y2 x5).f2, wrap64 (bt1.1 + 1), (QU y2 x5).f4⟩ : S87) : List S87)).bind fun y3 => (Q1.l0 k (y3.set (x5 : Int).toNat (⟨(QU y3 x5).f0, (QU y3 x5).f1, (QU y3 x5).f2, (QU y3 x5).f3, wrap64 ((wrap64 (bt1.1 + 1)) + 1)⟩ : S87)) (wrap64 ((wrap64 ((wrap64 (bt1.1 + 1)) + 1)) + 1)) (wrap64 (x5 + 1)))))))) else none) else (some (a1, l0))
def Q1.f (k : Nat) (l0 : List S87) (a1 : Int) : Option (Int × (List S87)) := Q1.l0 k l0 a1 0
def Q1.P0 (k : Nat) : Prop := ∀ (l0 : List S87) (a1 : Int) (x5 : Int) (r : Int × (List S87)), Q1.l0 k l0 a1 x5 = some r → ∀ st, canon 1 [0, 1, 5] st = ⟨Qaw [(0, .slc 0 [] 0 5 0 l0.length), (1, .i .i64 a1), (5, .i .i64 x5)], rsL [(0, some ⟨true, 5, 0, (l0.map (e87 false))⟩)], 1⟩ → W env Q1.c1 st (Qb 0 (Qs env Q1.c0 (Qf [.t 4] [true] ([.i .i64 r.1], [some (r.2.map (e87 false))]))))
theorem Q1.s0 (k : Nat) (ih : Q1.P0 k) : Q1.P0 (k + 1) := by
 intro l0 a1 x5 r H st hst
 rw [Q1.l0] at H
 rw [Qax (show Q1.c1 = C.loop 1 [0, 1, 5] Q1.d1 from rfl), hst]
 unfold Q1.d1
 try simp only [TN, simprocAttr, Q1.c0]
 rcases QP H with ⟨h1, H⟩ | ⟨h1, H⟩
 ·skip
  obtain ⟨h2, H⟩ := Qr H
  obtain ⟨_, hy3, H⟩ := Qbx H; subst hy3
  obtain ⟨bt1, e4, H⟩ := Qm H
  have e4 := QM.link e4
  obtain ⟨_, hy5, H⟩ := Qbx H; subst hy5
  obtain ⟨_, hy6, H⟩ := Qbx H; subst hy6
  obtain ⟨_, hy7, H⟩ := Qbx H; subst hy7
  try simp only [TN, simprocAttr, Q1.c0, h1, h2, e4]
  refine ih _ _ _ _ H _ ?_
  first | (rw [Qc]; done) | (rw [Qc]; rfl) | (rw [Qc]; simp only [List.length_set, List.length_append, List.length_replicate]; rfl)
 ·skip
  injection H with H; subst H
  try simp only [TN, simprocAttr, Q1.c0, h1]
  try rfl
theorem Q1.w : ∀ k, Q1.P0 k := by
 intro k
 induction k with
 | zero => exact by intro l0 a1 x5 r H; cases (show (none : Option (Int × (List S87))) = some r from H)
 | succ k ih => exact Q1.s0 k ih
theorem Q1.link {k : Nat} {l0 : List S87} {a1 : Int} {r : Int × (List S87)} (H : Q1.f k l0 a1 = some r) : Qat env 28 [.deep false false 5 (l0.map (e87 false)), .i .i64 a1] = some ([.i .i64 r.1], [some (r.2.map (e87 false))]) := by
 unfold Q1.f at H
 refine Qy (F := Q1.F) (tm := Qaw [(0, .slc 0 [] 0 5 0 l0.length), (1, .i .i64 a1)]) (rs := rsL [(0, some ⟨true, 5, 0, (l0.map (e87 false))⟩)]) (nx := 1) (ow := [true]) rfl (by rfl) (by simp only [SN]) (by simp only [SN]) (by decide) ?_
 show W env Q1.B _ (Qf [.t 4] [true] _)
 unfold Q1.B
 try simp only [TN, simprocAttr, Q1.c0]
 refine (Q1.w k) _ _ _ _ H _ ?_
 first | (rw [Qc]; done) | (rw [Qc]; rfl) | (rw [Qc]; simp only [List.length_set, List.length_append, List.length_replicate]; rfl)
end Go.Proofs.Ytinlbiphjgpmmaa.P
end
section
namespace Go.Proofs.Ytinlbiphjgpmmaa.P
open Go Go.RowKit Go.Proofs.Ytinlbiphjgpmmaa.V
def QR.l0 : Nat → (List (List S87)) → Int → Int → Option (Int × (List (List S87)))
 | 0, _, _, _ => none
 | k + 1, l0, a1, x5 => if x5 < (l0.length : Int) then (if 0 ≤ x5 then ((Q1.f k (rdL l0 x5) a1).bind fun bt1 => (QR.l0 k (l0.set (x5 : Int).toNat bt1.2) bt1.1 (wrap64 (x5 + 1)))) else none) else (some (a1, l0))
def QR.f (k : Nat) (l0 : List (List S87)) (a1 : Int) : Option (Int × (List (List S87))) := QR.l0 k l0 a1 0
def QR.P0 (k : Nat) : Prop := ∀ (l0 : List (List S87)) (a1 : Int) (x5 : Int) (r : Int × (List (List S87))), QR.l0 k l0 a1 x5 = some r → ∀ st, canon 1 [0, 1, 5] st = ⟨Qaw [(0, .slc 0 [] 0 1 0 l0.length), (1, .i .i64 a1), (5, .i .i64 x5)], rsL [(0, some ⟨true, 1, 0, (l0.map (eL 5 false (e87 false)))⟩)], 1⟩ → W env QR.c1 st (Qb 0 (Qs env QR.c0 (Qf [.t 4] [true] ([.i .i64 r.1], [some (r.2.map (eL 5 false (e87 false)))]))))
theorem QR.s0 (k : Nat) (ih : QR.P0 k) : QR.P0 (k + 1) := by
 intro l0 a1 x5 r H st hst
 rw [QR.l0] at H
 rw [Qax (show QR.c1 = C.loop 1 [0, 1, 5] QR.d1 from rfl), hst]
 unfold QR.d1
 try simp only [TN, simprocAttr, QR.c0]
 rcases QP H with ⟨h1, H⟩ | ⟨h1, H⟩
 ·skip
  obtain ⟨h2, H⟩ := Qr H
  obtain ⟨bt1, e3, H⟩ := Qm H
  have e3 := Q1.link e3
  try simp only [TN, simprocAttr, QR.c0, h1, h2, e3]
  refine ih _ _ _ _ H _ ?_
  first | (rw [Qc]; done) | (rw [Qc]; rfl) | (rw [Qc]; simp only [List.length_set, List.length_append, List.length_replicate]; rfl)
 ·skip
  injection H with H; subst H
  try simp only [TN, simprocAttr, QR.c0, h1]
  try rfl
theorem QR.w : ∀ k, QR.P0 k := by
 intro k
 induction k with
 | zero => exact by intro l0 a1 x5 r H; cases (show (none : Option (Int × (List (List S87)))) = some r from H)
 | succ k ih => exact QR.s0 k ih
theorem QR.link {k : Nat} {l0 : List (List S87)} {a1 : Int} {r : Int × (List (List S87))} (H : QR.f k l0 a1 = some r) : Qat env 61 [.deep false false 1 (l0.map (eL 5 false (e87 false))), .i .i64 a1] = some ([.i .i64 r.1], [some (r.2.map (eL 5 false (e87 false)))]) := by
 unfold QR.f at H
 refine Qy (F := QR.F) (tm := Qaw [(0, .slc 0 [] 0 1 0 l0.length), (1, .i .i64 a1)]) (rs := rsL [(0, some ⟨true, 1, 0, (l0.map (eL 5 false (e87 false)))⟩)]) (nx := 1) (ow := [true]) rfl (by rfl) (by simp only [SN]) (by simp only [SN]) (by decide) ?_
 show W env QR.B _ (Qf [.t 4] [true] _)
 unfold QR.B
 try simp only [TN, simprocAttr, QR.c0]
 refine (QR.w k) _ _ _ _ H _ ?_
 first | (rw [Qc]; done) | (rw [Qc]; rfl) | (rw [Qc]; simp only [List.length_set, List.length_append, List.length_replicate]; rfl)
end Go.Proofs.Ytinlbiphjgpmmaa.P
end
section
namespace Go.Proofs.Ytinlbiphjgpmmaa.P
open Go Go.RowKit Go.Proofs.Ytinlbiphjgpmmaa.V
def QaG.f (k : Nat) (l0_0 : List QQ) (l0_1 : List (List S87)) (a1 : Int) : Option (Int × (List QQ) × (List (List S87))) := (QF.f k l0_0 a1).bind fun bt1 => (if bt1.2.length = l0_0.length then ((QR.f k l0_1 bt1.1).bind fun bt2 => (if bt2.2.length = l0_1.length then (some (bt2.1, bt1.2, bt2.2)) else none)) else none)
theorem QaG.link {k : Nat} {l0_0 : List QQ} {l0_1 : List (List S87)} {a1 : Int} {r : Int × (List QQ) × (List (List S87))} (H : QaG.f k l0_0 l0_1 a1 = some r) : Qat env 27 [.agg [.deep false false 2 (l0_0.map QaA), .deep false false 1 (l0_1.map (eL 5 false (e87 false)))], .i .i64 a1] = some ([.i .i64 r.1], [some (r.2.1.map QaA), some (r.2.2.map (eL 5 false (e87 false)))]) := by
 unfold QaG.f at H
 refine Qy (F := QaG.F) (tm := Qaw [(0, .agg [.slc 0 [] 0 2 0 l0_0.length, .slc 1 [] 0 1 0 l0_1.length]), (1, .i .i64 a1)]) (rs := rsL [(0, some ⟨true, 2, 0, (l0_0.map QaA)⟩), (1, some ⟨true, 1, 0, (l0_1.map (eL 5 false (e87 false)))⟩)]) (nx := 2) (ow := [true, true]) rfl (by rfl) (by simp only [SN]) (by simp only [SN]) (by decide) ?_
 show W env QaG.B _ (Qf [.t 4] [true, true] _)
 unfold QaG.B
 obtain ⟨bt1, e1, H⟩ := Qm H
 have e1 := QF.link e1
 obtain ⟨q2, H⟩ := Qr H
 obtain ⟨bt2, e3, H⟩ := Qm H
 have e3 := QR.link e3
 obtain ⟨q4, H⟩ := Qr H
 injection H with H; subst H
 try simp only [TN, simprocAttr, e1, q2, e3, q4]
 try rfl
end Go.Proofs.Ytinlbiphjgpmmaa.P
end
section
namespace Go.Proofs.Ytinlbiphjgpmmaa.P
open Go Go.RowKit Go.Proofs.Ytinlbiphjgpmmaa.V
def Qz.l0 : Nat → (List QQ) → Int → Int → Option Int
 | 0, _, _, _ => none
 | k + 1, l0, a1, x5 => if x5 < (l0.length : Int) then (if 0 ≤ x5 then (if ((Qap l0 x5).f0) = a1 then (if ((Qap l0 x5).f1) = (wrap64 (a1 + 1)) then (Qz.l0 k l0 (wrap64 ((wrap64 (a1 + 1)) + 1)) (wrap64 (x5 + 1))) else (some (-1))) else (some (-1))) else none) else (some a1)
def Qz.f (k : Nat) (l0 : List QQ) (a1 : Int) : Option Int := Qz.l0 k l0 a1 0
def Qz.P0 (k : Nat) : Prop := ∀ (l0 : List QQ) (a1 : Int) (x5 : Int) (r : Int), Qz.l0 k l0 a1 x5 = some r → ∀ st, canon 1 [0, 1, 5] st = ⟨Qaw [(0, .slc 0 [] 0 2 0 l0.length), (1, .i .i64 a1), (5, .i .i64 x5)], rsL [(0, some ⟨false, 2, 0, (l0.map QaA)⟩)], 1⟩ → W env Qz.c1 st (Qb 0 (Qs env Qz.c0 (Qf [.t 4] [false] ([.i .i64 r], [none]))))
theorem Qz.s0 (k : Nat) (ih : Qz.P0 k) : Qz.P0 (k + 1) := by
 intro l0 a1 x5 r H st hst
 rw [Qz.l0] at H
 rw [Qax (show Qz.c1 = C.loop 1 [0, 1, 5] Qz.d1 from rfl), hst]
 unfold Qz.d1
 try simp only [TN, simprocAttr, Qz.c0]
 rcases QP H with ⟨h1, H⟩ | ⟨h1, H⟩
 ·skip
  obtain ⟨h2, H⟩ := Qr H
  try simp only [TN, simprocAttr, Qz.c0, h1, h2]
  rcases QP H with ⟨h3, H⟩ | ⟨h3, H⟩
  ·skip
   try simp only [TN, simprocAttr, Qz.c0, h1, h2, eq_true h3]
   rcases QP H with ⟨h4, H⟩ | ⟨h4, H⟩
   ·skip
    try simp only [TN, simprocAttr, Qz.c0, h1, h2, eq_true h3, eq_true h4]
    refine ih _ _ _ _ H _ ?_
    first | (rw [Qc]; done) | (rw [Qc]; rfl) | (rw [Qc]; simp only [List.length_set, List.length_append, List.length_replicate]; rfl)
   ·skip
    injection H with H; subst H
    try simp only [TN, simprocAttr, Qz.c0, h1, h2, eq_true h3, h4]
    try rfl
  ·skip
   injection H with H; subst H
   try simp only [TN, simprocAttr, Qz.c0, h1, h2, h3]
   try rfl
 ·skip
  injection H with H; subst H
  try simp only [TN, simprocAttr, Qz.c0, h1]
  try rfl
theorem Qz.w : ∀ k, Qz.P0 k := by
 intro k
 induction k with
 | zero => exact by intro l0 a1 x5 r H; cases (show (none : Option Int) = some r from H)
 | succ k ih => exact Qz.s0 k ih
theorem Qz.link {k : Nat} {l0 : List QQ} {a1 : Int} {r : Int} (H : Qz.f k l0 a1 = some r) : Qat env 63 [.deep false true 2 (l0.map QaA), .i .i64 a1] = some ([.i .i64 r], [none]) := by
 unfold Qz.f at H
 refine Qy (F := Qz.F) (tm := Qaw [(0, .slc 0 [] 0 2 0 l0.length), (1, .i .i64 a1)]) (rs := rsL [(0, some ⟨false, 2, 0, (l0.map QaA)⟩)]) (nx := 1) (ow := [false]) rfl (by rfl) (by simp only [SN]) (by simp only [SN]) (by decide) ?_
 show W env Qz.B _ (Qf [.t 4] [false] _)
 unfold Qz.B
 try simp only [TN, simprocAttr, Qz.c0]
 refine (Qz.w k) _ _ _ _ H _ ?_
 first | (rw [Qc]; done) | (rw [Qc]; rfl) | (rw [Qc]; simp only [List.length_set, List.length_append, List.length_replicate]; rfl)
end Go.Proofs.Ytinlbiphjgpmmaa.P
end
section
namespace Go.Proofs.Ytinlbiphjgpmmaa.P
open Go Go.RowKit Go.Proofs.Ytinlbiphjgpmmaa.V
def QH.l0 : Nat → (List Int) → Int → Int → Option Int
 | 0, _, _, _ => none
 | k + 1, l0, a1, x5 => if x5 < (l0.length : Int) then (if 0 ≤ x5 then (if (rd l0 x5) = a1 then (QH.l0 k l0 (wrap64 (a1 + 1)) (wrap64 (x5 + 1))) else (some (-1))) else none) else (some a1)
def QH.f (k : Nat) (l0 : List Int) (a1 : Int) : Option Int := QH.l0 k l0 a1 0
def QH.P0 (k : Nat) : Prop := ∀ (l0 : List Int) (a1 : Int) (x5 : Int) (r : Int), QH.l0 k l0 a1 x5 = some r → ∀ st, canon 1 [0, 1, 5] st = ⟨Qaw [(0, .slc 0 [] 0 1 0 l0.length), (1, .i .i64 a1), (5, .i .i64 x5)], rsL [(0, some ⟨false, 1, 0, (l0.map eI)⟩)], 1⟩ → W env QH.c1 st (Qb 0 (Qs env QH.c0 (Qf [.t 4] [false] ([.i .i64 r], [none]))))
theorem QH.s0 (k : Nat) (ih : QH.P0 k) : QH.P0 (k + 1) := by
 intro l0 a1 x5 r H st hst
 rw [QH.l0] at H
 rw [Qax (show QH.c1 = C.loop 1 [0, 1, 5] QH.d1 from rfl), hst]
 unfold QH.d1
 try simp only [TN, simprocAttr, QH.c0]
 rcases QP H with ⟨h1, H⟩ | ⟨h1, H⟩
 ·skip
  obtain ⟨h2, H⟩ := Qr H
  try simp only [TN, simprocAttr, QH.c0, h1, h2]
  rcases QP H with ⟨h3, H⟩ | ⟨h3, H⟩
  ·skip
   try simp only [TN, simprocAttr, QH.c0, h1, h2, eq_true h3]
   refine ih _ _ _ _ H _ ?_
   first | (rw [Qc]; done) | (rw [Qc]; rfl) | (rw [Qc]; simp only [List.length_set, List.length_append, List.length_replicate]; rfl)
  ·skip
   injection H with H; subst H
   try simp only [TN, simprocAttr, QH.c0, h1, h2, h3]
   try rfl
 ·skip
  injection H with H; subst H
  try simp only [TN, simprocAttr, QH.c0, h1]
  try rfl
theorem QH.w : ∀ k, QH.P0 k := by
 intro k
 induction k with
 | zero => exact by intro l0 a1 x5 r H; cases (show (none : Option Int) = some r from H)
 | succ k ih => exact QH.s0 k ih
theorem QH.link {k : Nat} {l0 : List Int} {a1 : Int} {r : Int} (H : QH.f k l0 a1 = some r) : Qat env 115 [.deep false true 1 (l0.map eI), .i .i64 a1] = some ([.i .i64 r], [none]) := by
 unfold QH.f at H
 refine Qy (F := QH.F) (tm := Qaw [(0, .slc 0 [] 0 1 0 l0.length), (1, .i .i64 a1)]) (rs := rsL [(0, some ⟨false, 1, 0, (l0.map eI)⟩)]) (nx := 1) (ow := [false]) rfl (by rfl) (by simp only [SN]) (by simp only [SN]) (by decide) ?_
 show W env QH.B _ (Qf [.t 4] [false] _)
 unfold QH.B
 try simp only [TN, simprocAttr, QH.c0]
 refine (QH.w k) _ _ _ _ H _ ?_
 first | (rw [Qc]; done) | (rw [Qc]; rfl) | (rw [Qc]; simp only [List.length_set, List.length_append, List.length_replicate]; rfl)
end Go.Proofs.Ytinlbiphjgpmmaa.P
end
section
namespace Go.Proofs.Ytinlbiphjgpmmaa.P
open Go Go.RowKit Go.Proofs.Ytinlbiphjgpmmaa.V
def QC.l0 : Nat → (List S87) → Int → Int → Option Int
 | 0, _, _, _ => none
 | k + 1, l0, a1, x5 => if x5 < (l0.length : Int) then (if 0 ≤ x5 then (if ((QU l0 x5).f0) = a1 then ((QH.f k ((QU l0 x5).f1) (wrap64 (a1 + 1))).bind fun t1 => (if t1 < 0 then (some (-1)) else (if ((QU l0 x5).f2) = t1 then (if ((QU l0 x5).f3) = (wrap64 (t1 + 1)) then (if ((QU l0 x5).f4) = (wrap64 ((wrap64 (t1 + 1)) + 1)) then (QC.l0 k l0 (wrap64 ((wrap64 ((wrap64 (t1 + 1)) + 1)) + 1)) (wrap64 (x5 + 1))) else (some (-1))) else (some (-1))) else (some (-1))))) else (some (-1))) else none) else (some a1)
def QC.f (k : Nat) (l0 : List S87) (a1 : Int) : Option Int := QC.l0 k l0 a1 0
def QC.P0 (k : Nat) : Prop := ∀ (l0 : List S87) (a1 : Int) (x5 : Int) (r : Int), QC.l0 k l0 a1 x5 = some r → ∀ st, canon 1 [0, 1, 5] st = ⟨Qaw [(0, .slc 0 [] 0 5 0 l0.length), (1, .i .i64 a1), (5, .i .i64 x5)], rsL [(0, some ⟨false, 5, 0, (l0.map (e87 false))⟩)], 1⟩ → W env QC.c1 st (Qb 0 (Qs env QC.c0 (Qf [.t 4] [false] ([.i .i64 r], [none]))))
theorem QC.s0 (k : Nat) (ih : QC.P0 k) : QC.P0 (k + 1) := by
 intro l0 a1 x5 r H st hst
 rw [QC.l0] at H
 rw [Qax (show QC.c1 = C.loop 1 [0, 1, 5] QC.d1 from rfl), hst]
 unfold QC.d1
 try simp only [TN, simprocAttr, QC.c0]
 rcases QP H with ⟨h1, H⟩ | ⟨h1, H⟩
 ·skip
  obtain ⟨h2, H⟩ := Qr H
  try simp only [TN, simprocAttr, QC.c0, h1, h2]
  rcases QP H with ⟨h3, H⟩ | ⟨h3, H⟩
  ·skip
   obtain ⟨t1, e4, H⟩ := Qm H
   have e4 := QH.link e4
   try simp only [TN, simprocAttr, QC.c0, h1, h2, eq_true h3, e4]
   rcases QP H with ⟨h5, H⟩ | ⟨h5, H⟩
   ·skip
    injection H with H; subst H
    try simp only [TN, simprocAttr, QC.c0, h1, h2, eq_true h3, e4, h5]
    try rfl
   ·skip
    try simp only [TN, simprocAttr, QC.c0, h1, h2, eq_true h3, e4, h5]
    rcases QP H with ⟨h6, H⟩ | ⟨h6, H⟩
    ·skip
     try simp only [TN, simprocAttr, QC.c0, h1, h2, eq_true h3, e4, h5, eq_true h6]
     rcases QP H with ⟨h7, H⟩ | ⟨h7, H⟩
     ·skip
      try simp only [TN, simprocAttr, QC.c0, h1, h2, eq_true h3, e4, h5, eq_true h6, eq_true h7]
      rcases QP H with ⟨h8, H⟩ | ⟨h8, H⟩
      ·skip
       try simp only [TN, simprocAttr, QC.c0, h1, h2, eq_true h3, e4, h5, eq_true h6, eq_true h7, eq_true h8]
       refine ih _ _ _ _ H _ ?_
       first | (rw [Qc]; done) | (rw [Qc]; rfl) | (rw [Qc]; simp only [List.length_set, List.length_append, List.length_replicate]; rfl)
      ·skip
       injection H with H; subst H
       try simp only [TN, simprocAttr, QC.c0, h1, h2, eq_true h3, e4, h5, eq_true h6, eq_true h7, h8]
       try rfl
     ·skip
      injection H with H; subst H
      try simp only [TN, simprocAttr, QC.c0, h1, h2, eq_true h3, e4, h5, eq_true h6, h7]
      try rfl
    ·skip
     injection H with H; subst H
     try simp only [TN, simprocAttr, QC.c0, h1, h2, eq_true h3, e4, h5, h6]
     try rfl
  ·skip
   injection H with H; subst H
   try simp only [TN, simprocAttr, QC.c0, h1, h2, h3]
   try rfl
 ·skip
  injection H with H; subst H
  try simp only [TN, simprocAttr, QC.c0, h1]
  try rfl
theorem QC.w : ∀ k, QC.P0 k := by
 intro k
 induction k with
 | zero => exact by intro l0 a1 x5 r H; cases (show (none : Option Int) = some r from H)
 | succ k ih => exact QC.s0 k ih
theorem QC.link {k : Nat} {l0 : List S87} {a1 : Int} {r : Int} (H : QC.f k l0 a1 = some r) : Qat env 96 [.deep false true 5 (l0.map (e87 false)), .i .i64 a1] = some ([.i .i64 r], [none]) := by
 unfold QC.f at H
 refine Qy (F := QC.F) (tm := Qaw [(0, .slc 0 [] 0 5 0 l0.length), (1, .i .i64 a1)]) (rs := rsL [(0, some ⟨false, 5, 0, (l0.map (e87 false))⟩)]) (nx := 1) (ow := [false]) rfl (by rfl) (by simp only [SN]) (by simp only [SN]) (by decide) ?_
 show W env QC.B _ (Qf [.t 4] [false] _)
 unfold QC.B
 try simp only [TN, simprocAttr, QC.c0]
 refine (QC.w k) _ _ _ _ H _ ?_
 first | (rw [Qc]; done) | (rw [Qc]; rfl) | (rw [Qc]; simp only [List.length_set, List.length_append, List.length_replicate]; rfl)
end Go.Proofs.Ytinlbiphjgpmmaa.P
end
section
namespace Go.Proofs.Ytinlbiphjgpmmaa.P
open Go Go.RowKit Go.Proofs.Ytinlbiphjgpmmaa.V
def QJ.l0 : Nat → (List (List S87)) → Int → Int → Option Int
 | 0, _, _, _ => none
 | k + 1, l0, a1, x5 => if x5 < (l0.length : Int) then (if 0 ≤ x5 then ((QC.f k (rdL l0 x5) a1).bind fun t1 => (if t1 < 0 then (some (-1)) else (QJ.l0 k l0 t1 (wrap64 (x5 + 1))))) else none) else (some a1)
def QJ.f (k : Nat) (l0 : List (List S87)) (a1 : Int) : Option Int := QJ.l0 k l0 a1 0
def QJ.P0 (k : Nat) : Prop := ∀ (l0 : List (List S87)) (a1 : Int) (x5 : Int) (r : Int), QJ.l0 k l0 a1 x5 = some r → ∀ st, canon 1 [0, 1, 5] st = ⟨Qaw [(0, .slc 0 [] 0 1 0 l0.length), (1, .i .i64 a1), (5, .i .i64 x5)], rsL [(0, some ⟨false, 1, 0, (l0.map (eL 5 false (e87 false)))⟩)], 1⟩ → W env QJ.c1 st (Qb 0 (Qs env QJ.c0 (Qf [.t 4] [false] ([.i .i64 r], [none]))))
theorem QJ.s0 (k : Nat) (ih : QJ.P0 k) : QJ.P0 (k + 1) := by
 intro l0 a1 x5 r H st hst
 rw [QJ.l0] at H
 rw [Qax (show QJ.c1 = C.loop 1 [0, 1, 5] QJ.d1 from rfl), hst]
 unfold QJ.d1
 try simp only [TN, simprocAttr, QJ.c0]
 rcases QP H with ⟨h1, H⟩ | ⟨h1, H⟩
 ·skip
  obtain ⟨h2, H⟩ := Qr H
  obtain ⟨t1, e3, H⟩ := Qm H
  have e3 := QC.link e3
  try simp only [TN, simprocAttr, QJ.c0, h1, h2, e3]
  rcases QP H with ⟨h4, H⟩ | ⟨h4, H⟩
  ·skip
   injection H with H; subst H
   try simp only [TN, simprocAttr, QJ.c0, h1, h2, e3, h4]
   try rfl
  ·skip
   try simp only [TN, simprocAttr, QJ.c0, h1, h2, e3, h4]
   refine ih _ _ _ _ H _ ?_
   first | (rw [Qc]; done) | (rw [Qc]; rfl) | (rw [Qc]; simp only [List.length_set, List.length_append, List.length_replicate]; rfl)
 ·skip
  injection H with H; subst H
  try simp only [TN, simprocAttr, QJ.c0, h1]
  try rfl
theorem QJ.w : ∀ k, QJ.P0 k := by
 intro k
 induction k with
 | zero => exact by intro l0 a1 x5 r H; cases (show (none : Option Int) = some r from H)
 | succ k ih => exact QJ.s0 k ih
theorem QJ.link {k : Nat} {l0 : List (List S87)} {a1 : Int} {r : Int} (H : QJ.f k l0 a1 = some r) : Qat env 64 [.deep false true 1 (l0.map (eL 5 false (e87 false))), .i .i64 a1] = some ([.i .i64 r], [none]) := by
 unfold QJ.f at H
 refine Qy (F := QJ.F) (tm := Qaw [(0, .slc 0 [] 0 1 0 l0.length), (1, .i .i64 a1)]) (rs := rsL [(0, some ⟨false, 1, 0, (l0.map (eL 5 false (e87 false)))⟩)]) (nx := 1) (ow := [false]) rfl (by rfl) (by simp only [SN]) (by simp only [SN]) (by decide) ?_
 show W env QJ.B _ (Qf [.t 4] [false] _)
 unfold QJ.B
 try simp only [TN, simprocAttr, QJ.c0]
 refine (QJ.w k) _ _ _ _ H _ ?_
 first | (rw [Qc]; done) | (rw [Qc]; rfl) | (rw [Qc]; simp only [List.length_set, List.length_append, List.length_replicate]; rfl)
end Go.Proofs.Ytinlbiphjgpmmaa.P
end
section
namespace Go.Proofs.Ytinlbiphjgpmmaa.P
open Go Go.RowKit Go.Proofs.Ytinlbiphjgpmmaa.V
def QaN.f (k : Nat) (l0_0 : List QQ) (l0_1 : List (List S87)) (a1 : Int) : Option Int := (Qz.f k l0_0 a1).bind fun t1 => (if t1 < 0 then (some (-1)) else ((QJ.f k l0_1 t1).bind fun t2 => (if t2 < 0 then (some (-1)) else (some t2))))
theorem QaN.link {k : Nat} {l0_0 : List QQ} {l0_1 : List (List S87)} {a1 : Int} {r : Int} (H : QaN.f k l0_0 l0_1 a1 = some r) : Qat env 29 [.agg [.deep false true 2 (l0_0.map QaA), .deep false true 1 (l0_1.map (eL 5 false (e87 false)))], .i .i64 a1] = some ([.i .i64 r], [none, none]) := by
 unfold QaN.f at H
 refine Qy (F := QaN.F) (tm := Qaw [(0, .agg [.slc 0 [] 0 2 0 l0_0.length, .slc 1 [] 0 1 0 l0_1.length]), (1, .i .i64 a1)]) (rs := rsL [(0, some ⟨false, 2, 0, (l0_0.map QaA)⟩), (1, some ⟨false, 1, 0, (l0_1.map (eL 5 false (e87 false)))⟩)]) (nx := 2) (ow := [false, false]) rfl (by rfl) (by simp only [SN]) (by simp only [SN]) (by decide) ?_
 show W env QaN.B _ (Qf [.t 4] [false, false] _)
 unfold QaN.B
 obtain ⟨t1, e1, H⟩ := Qm H
 have e1 := Qz.link e1
 try simp only [TN, simprocAttr, e1]
 rcases QP H with ⟨h2, H⟩ | ⟨h2, H⟩
 ·skip
  injection H with H; subst H
  try simp only [TN, simprocAttr, e1, h2]
  try rfl
 ·skip
  obtain ⟨t2, e3, H⟩ := Qm H
  have e3 := QJ.link e3
  try simp only [TN, simprocAttr, e1, h2, e3]
  rcases QP H with ⟨h4, H⟩ | ⟨h4, H⟩
  ·skip
   injection H with H; subst H
   try simp only [TN, simprocAttr, e1, h2, e3, h4]
   try rfl
  ·skip
   injection H with H; subst H
   try simp only [TN, simprocAttr, e1, h2, e3, h4]
   try rfl
end Go.Proofs.Ytinlbiphjgpmmaa.P
end
section
namespace Go.Proofs.Ytinlbiphjgpmmaa.P
open Go Go.RowKit Go.Proofs.Ytinlbiphjgpmmaa.V
def QX.l0 : Nat → (List S87) → (List S87) → Int → Option (List S87)
 | 0, _, _, _ => none
 | k + 1, l0, x3, x4 => if x4 < (l0.length : Int) then (if 0 ≤ x4 then (if ((QU l0 x4).f1).length * 8 ≤ 140737488355328 then (if x3.length < 2513169434916 then (QX.l0 k l0 (x3 ++ ([(⟨(QU l0 x4).f0, (QU l0 x4).f1, (QU l0 x4).f2, (QU l0 x4).f3, (QU l0 x4).f4⟩ : S87)])) (wrap64 (x4 + 1))) else none) else none) else none) else (some x3)
def QX.f (k : Nat) (l0 : List S87) : Option (List S87) := QX.l0 k l0 ([] : List S87) 0
def QX.P0 (k : Nat) : Prop := ∀ (l0 : List S87) (x3 : List S87) (x4 : Int) (r : (List S87)), QX.l0 k l0 x3 x4 = some r → ∀ st, canon 1 [0, 3, 4] st = ⟨Qaw [(0, .slc 0 [] 0 5 0 l0.length), (3, .slc 1 [] 0 5 0 x3.length), (4, .i .i64 x4)], rsL [(0, some ⟨false, 5, 0, (l0.map (e87 false))⟩), (1, some ⟨true, 5, 0, (x3.map (e87 false))⟩)], 2⟩ → W env QX.c1 st (Qb 0 (Qs env QX.c0 (Qf [.t 2] [false] ([.deep false false 5 (r.map (e87 false))], [none]))))
theorem QX.s0 (k : Nat) (ih : QX.P0 k) : QX.P0 (k + 1) := by
 intro l0 x3 x4 r H st hst
 rw [QX.l0] at H
 rw [Qax (show QX.c1 = C.loop 1 [0, 3, 4] QX.d1 from rfl), hst]
 unfold QX.d1
 try simp only [TN, simprocAttr, QX.c0]
 rcases QP H with ⟨h1, H⟩ | ⟨h1, H⟩
 ·skip
  obtain ⟨h2, H⟩ := Qr H
  obtain ⟨h3, H⟩ := Qr H
  obtain ⟨h4, H⟩ := Qr H
  have h5 : (x3.length + 1) * 56 ≤ 140737488355328 := by omega
  try simp only [TN, simprocAttr, QX.c0, h1, h2, h3, @Qdk, h4, h5]
  refine ih _ _ _ _ H _ ?_
  first | (rw [Qc]; done) | (rw [Qc]; rfl) | (rw [Qc]; simp only [List.length_set, List.length_append, List.length_replicate]; rfl)
 ·skip
  injection H with H; subst H
  try simp only [TN, simprocAttr, QX.c0, h1]
  try rfl
theorem QX.w : ∀ k, QX.P0 k := by
 intro k
 induction k with
 | zero => exact by intro l0 x3 x4 r H; cases (show (none : Option (List S87)) = some r from H)
 | succ k ih => exact QX.s0 k ih
theorem QX.link {k : Nat} {l0 : List S87} {r : (List S87)} (H : QX.f k l0 = some r) : Qat env 49 [.deep false true 5 (l0.map (e87 false))] = some ([.deep false false 5 (r.map (e87 false))], [none]) := by
 unfold QX.f at H
 refine Qy (F := QX.F) (tm := Qaw [(0, .slc 0 [] 0 5 0 l0.length)]) (rs := rsL [(0, some ⟨false, 5, 0, (l0.map (e87 false))⟩)]) (nx := 1) (ow := [false]) rfl (by rfl) (by simp only [SN]) (by simp only [SN]) (by decide) ?_
 show W env QX.B _ (Qf [.t 2] [false] _)
 unfold QX.B
 try simp only [TN, simprocAttr, QX.c0]
 refine (QX.w k) _ _ _ _ H _ ?_
 first | (rw [Qc]; done) | (rw [Qc]; rfl) | (rw [Qc]; simp only [List.length_set, List.length_append, List.length_replicate]; rfl)
end Go.Proofs.Ytinlbiphjgpmmaa.P
end
section
namespace Go.Proofs.Ytinlbiphjgpmmaa.P
open Go Go.RowKit Go.Proofs.Ytinlbiphjgpmmaa.V
def Qam.f (l0 : List QQ) : Option (List QQ) := if l0.length * 16 ≤ 140737488355328 then (some l0) else none
theorem Qam.link {l0 : List QQ} {r : (List QQ)} (H : Qam.f l0 = some r) : Qat env 85 [.deep false true 2 (l0.map QaA)] = some ([.deep false false 2 (r.map QaA)], [none]) := by
 unfold Qam.f at H
 refine Qy (F := Qam.F) (tm := Qaw [(0, .slc 0 [] 0 2 0 l0.length)]) (rs := rsL [(0, some ⟨false, 2, 0, (l0.map QaA)⟩)]) (nx := 1) (ow := [false]) rfl (by rfl) (by simp only [SN]) (by simp only [SN]) (by decide) ?_
 show W env Qam.B _ (Qf [.t 2] [false] _)
 unfold Qam.B
 obtain ⟨h1, H⟩ := Qr H
 injection H with H; subst H
 try simp only [TN, simprocAttr, h1]
 try rfl
end Go.Proofs.Ytinlbiphjgpmmaa.P
end
section
namespace Go.Proofs.Ytinlbiphjgpmmaa.P
open Go Go.RowKit Go.Proofs.Ytinlbiphjgpmmaa.V
def QK.l0 : Nat → (List QQ) → (List (List S87)) → Int → (List QQ) → (List (List S87)) → (List QQ) → (List (List S87)) → Option ((List QQ) × (List (List S87)))
 | 0, _, _, _, _, _, _, _ => none
 | k + 1, l0_0, l0_1, x4, c2_0, c2_1, c3_0, c3_1 => if x4 < (l0_1.length : Int) then (if 0 ≤ x4 then ((QX.f k (rdL l0_1 x4)).bind fun t2 => (if c3_1.length < 5864062014805 then (QK.l0 k l0_0 l0_1 (wrap64 (x4 + 1)) c2_0 c2_1 c3_0 (c3_1 ++ ([t2]))) else none)) else none) else (some (c3_0, c3_1))
def QK.f (k : Nat) (l0_0 : List QQ) (l0_1 : List (List S87)) : Option ((List QQ) × (List (List S87))) := (Qam.f l0_0).bind fun t1 => (QK.l0 k l0_0 l0_1 0 [] [] t1 [])
def QK.P0 (k : Nat) : Prop := ∀ (l0_0 : List QQ) (l0_1 : List (List S87)) (x4 : Int) (c2_0 : List QQ) (c2_1 : List (List S87)) (c3_0 : List QQ) (c3_1 : List (List S87)) (r : (List QQ) × (List (List S87))), QK.l0 k l0_0 l0_1 x4 c2_0 c2_1 c3_0 c3_1 = some r → ∀ st, canon 2 [1, 2, 3, 4] st = ⟨Qaw [(1, .bx [.slc 0 [] 0 2 0 l0_0.length, .slc 1 [] 0 1 0 l0_1.length] 0), (2, .ptr 2 [] 0 0 0), (3, .ptr 3 [] 0 0 0), (4, .i .i64 x4)], rsL [(0, some ⟨false, 2, 0, (l0_0.map QaA)⟩), (1, some ⟨false, 1, 0, (l0_1.map (eL 5 false (e87 false)))⟩), (2, some ⟨true, 2, 0, [[.deep false false 2 (c2_0.map QaA), .deep false false 1 (c2_1.map (eL 5 false (e87 false)))]]⟩), (3, some ⟨true, 2, 0, [[.deep false false 2 (c3_0.map QaA), .deep false false 1 (c3_1.map (eL 5 false (e87 false)))]]⟩)], 4⟩ → W env QK.c1 st (Qb 0 (Qs env QK.c0 (Qf [.cell 2 (some 2)] [false, false] ([.agg [.deep false false 2 (r.1.map QaA), .deep false false 1 (r.2.map (eL 5 false (e87 false)))]], [none, none]))))
theorem QK.s0 (k : Nat) (ih : QK.P0 k) : QK.P0 (k + 1) := by
 intro l0_0 l0_1 x4 c2_0 c2_1 c3_0 c3_1 r H st hst
 rw [QK.l0] at H
 rw [Qax (show QK.c1 = C.loop 2 [1, 2, 3, 4] QK.d1 from rfl), hst]
 unfold QK.d1
 try simp only [TN, simprocAttr, QK.c0]
 rcases QP H with ⟨h1, H⟩ | ⟨h1, H⟩
 ·skip
  obtain ⟨h2, H⟩ := Qr H
  obtain ⟨t2, e3, H⟩ := Qm H
  have e3 := QX.link e3
  obtain ⟨h4, H⟩ := Qr H
  have h5 : (c3_1.length + 1) * 24 ≤ 140737488355328 := by omega
  try simp only [TN, simprocAttr, QK.c0, h1, h2, e3, h4, h5]
  refine ih _ _ _ _ _ _ _ _ H _ ?_
  first | (rw [Qc]; done) | (rw [Qc]; rfl) | (rw [Qc]; simp only [List.length_set, List.length_append, List.length_replicate]; rfl)
 ·skip
  injection H with H; subst H
  try simp only [TN, simprocAttr, QK.c0, h1]
  try rfl
theorem QK.w : ∀ k, QK.P0 k := by
 intro k
 induction k with
 | zero => exact by intro l0_0 l0_1 x4 c2_0 c2_1 c3_0 c3_1 r H; cases (show (none : Option ((List QQ) × (List (List S87)))) = some r from H)
 | succ k ih => exact QK.s0 k ih
theorem QK.link {k : Nat} {l0_0 : List QQ} {l0_1 : List (List S87)} {r : (List QQ) × (List (List S87))} (H : QK.f k l0_0 l0_1 = some r) : Qat env 48 [.agg [.deep false true 2 (l0_0.map QaA), .deep false true 1 (l0_1.map (eL 5 false (e87 false)))]] = some ([.agg [.deep false false 2 (r.1.map QaA), .deep false false 1 (r.2.map (eL 5 false (e87 false)))]], [none, none]) := by
 unfold QK.f at H
 refine Qy (F := QK.F) (tm := Qaw [(0, .agg [.slc 0 [] 0 2 0 l0_0.length, .slc 1 [] 0 1 0 l0_1.length])]) (rs := rsL [(0, some ⟨false, 2, 0, (l0_0.map QaA)⟩), (1, some ⟨false, 1, 0, (l0_1.map (eL 5 false (e87 false)))⟩)]) (nx := 2) (ow := [false, false]) rfl (by rfl) (by simp only [SN]) (by simp only [SN]) (by decide) ?_
 show W env QK.B _ (Qf [.cell 2 (some 2)] [false, false] _)
 unfold QK.B
 obtain ⟨t1, e1, H⟩ := Qm H
 have e1 := Qam.link e1
 try simp only [TN, simprocAttr, QK.c0, e1]
 refine (QK.w k) _ _ _ _ _ _ _ _ H _ ?_
 first | (rw [Qc]; done) | (rw [Qc]; rfl) | (rw [Qc]; simp only [List.length_set, List.length_append, List.length_replicate]; rfl)
end Go.Proofs.Ytinlbiphjgpmmaa.P
end
section
namespace Go.Proofs.Ytinlbiphjgpmmaa.P
open Go Go.RowKit Go.Proofs.Ytinlbiphjgpmmaa.V
def Qao.f (a0 : Int) (a1 : Int) (a2 : Int) : Option Bool := if a0 ≥ a1 then (some (decide (a0 ≤ a2))) else (some false)
theorem Qao.link {a0 : Int} {a1 : Int} {a2 : Int} {r : Bool} (H : Qao.f a0 a1 a2 = some r) : Qat env 33 [.i .i64 a0, .i .i64 a1, .i .i64 a2] = some ([.b r], []) := by
 unfold Qao.f at H
 refine Qy (F := Qao.F) (tm := Qaw [(0, .i .i64 a0), (1, .i .i64 a1), (2, .i .i64 a2)]) (rs := rsL []) (nx := 0) (ow := []) rfl (by rfl) (by simp only [SN]) (by simp only [SN]) (by decide) ?_
 show W env Qao.B _ (Qf [.t 6] [] _)
 unfold Qao.B
 try simp only [TN, simprocAttr]
 rcases QP H with ⟨h1, H⟩ | ⟨h1, H⟩
 ·skip
  injection H with H; subst H
  try simp only [TN, simprocAttr, h1]
  try rfl
 ·skip
  injection H with H; subst H
  try simp only [TN, simprocAttr, h1]
  try rfl
end Go.Proofs.Ytinlbiphjgpmmaa.P
end
section
namespace Go.Proofs.Ytinlbiphjgpmmaa.P
open Go Go.RowKit Go.Proofs.Ytinlbiphjgpmmaa.V
def QaD.f (a0 : Int) : Option Bool := (Qao.f a0 0 5).bind fun t1 => (some t1)
theorem QaD.link {a0 : Int} {r : Bool} (H : QaD.f a0 = some r) : Qat env 71 [.i .i64 a0] = some ([.b r], []) := by
 unfold QaD.f at H
 refine Qy (F := QaD.F) (tm := Qaw [(0, .i .i64 a0)]) (rs := rsL []) (nx := 0) (ow := []) rfl (by rfl) (by simp only [SN]) (by simp only [SN]) (by decide) ?_
 show W env QaD.B _ (Qf [.t 2] [] _)
 unfold QaD.B
 obtain ⟨t1, e1, H⟩ := Qm H
 have e1 := Qao.link e1
 injection H with H; subst H
 try simp only [TN, simprocAttr, e1]
 try rfl
end Go.Proofs.Ytinlbiphjgpmmaa.P
end
section
namespace Go.Proofs.Ytinlbiphjgpmmaa.P
open Go Go.RowKit Go.Proofs.Ytinlbiphjgpmmaa.V
def Qw.l0 : Nat → (List QQ) → Int → Option Bool
 | 0, _, _ => none
 | k + 1, l0, x3 => if x3 < (l0.length : Int) then (if 0 ≤ x3 then ((QaD.f ((Qap l0 x3).f0)).bind fun t1 => (if t1 = true then ((Qao.f ((Qap l0 x3).f1) 0 12).bind fun t2 => (if t2 = true then (if (decide (((Qap l0 x3).f1) = 0)) = (decide (x3 = 0)) then (if x3 > 0 then (if 0 ≤ wrap64 (x3 - 1) then (if wrap64 (x3 - 1) < (l0.length : Int) then (if ((Qap l0 x3).f1) > (wrap64 (((Qap l0 (wrap64 (x3 - 1))).f1) + 1)) then (some false) else (Qw.l0 k l0 (wrap64 (x3 + 1)))) else none) else none) else (Qw.l0 k l0 (wrap64 (x3 + 1)))) else (some false)) else (some false))) else (some false))) else none) else ((Qao.f (l0.length : Int) 1 24).bind fun t3 => (some t3))
def Qw.f (k : Nat) (l0 : List QQ) : Option Bool := Qw.l0 k l0 0
def Qw.P0 (k : Nat) : Prop := ∀ (l0 : List QQ) (x3 : Int) (r : Bool), Qw.l0 k l0 x3 = some r → ∀ st, canon 1 [0, 3] st = ⟨Qaw [(0, .slc 0 [] 0 2 0 l0.length), (3, .i .i64 x3)], rsL [(0, some ⟨false, 2, 0, (l0.map QaA)⟩)], 1⟩ → W env Qw.c1 st (Qb 0 (Qs env Qw.c0 (Qf [.t 2] [false] ([.b r], [none]))))
theorem Qw.s0 (k : Nat) (ih : Qw.P0 k) : Qw.P0 (k + 1) := by
 intro l0 x3 r H st hst
 rw [Qw.l0] at H
 rw [Qax (show Qw.c1 = C.loop 1 [0, 3] Qw.d1 from rfl), hst]
 unfold Qw.d1
 try simp only [TN, simprocAttr, Qw.c0]
 rcases QP H with ⟨h1, H⟩ | ⟨h1, H⟩
 ·skip
  obtain ⟨h2, H⟩ := Qr H
  obtain ⟨t1, e3, H⟩ := Qm H
  have e3 := QaD.link e3
  try simp only [TN, simprocAttr, Qw.c0, h1, h2, e3]
  rcases Qa1 H with ⟨h4, H⟩ | ⟨h4, H⟩
  ·skip
   obtain ⟨t2, e5, H⟩ := Qm H
   have e5 := Qao.link e5
   try simp only [TN, simprocAttr, Qw.c0, h1, h2, e3, h4, e5]
   rcases Qa1 H with ⟨h6, H⟩ | ⟨h6, H⟩
   ·skip
    try simp only [TN, simprocAttr, Qw.c0, h1, h2, e3, h4, e5, h6]
    rcases QP H with ⟨h7, H⟩ | ⟨h7, H⟩
    ·skip
     try simp only [TN, simprocAttr, Qw.c0, h1, h2, e3, h4, e5, h6, eq_true h7]
     rcases QP H with ⟨h8, H⟩ | ⟨h8, H⟩
     ·skip
      obtain ⟨h9, H⟩ := Qr H
      obtain ⟨h10, H⟩ := Qr H
      try simp only [TN, simprocAttr, Qw.c0, h1, h2, e3, h4, e5, h6, eq_true h7, h8, h9, h10]
      rcases QP H with ⟨h11, H⟩ | ⟨h11, H⟩
      ·skip
       injection H with H; subst H
       try simp only [TN, simprocAttr, Qw.c0, h1, h2, e3, h4, e5, h6, eq_true h7, h8, h9, h10, h11]
       try rfl
      ·skip
       try simp only [TN, simprocAttr, Qw.c0, h1, h2, e3, h4, e5, h6, eq_true h7, h8, h9, h10, h11]
       refine ih _ _ _ H _ ?_
       first | (rw [Qc]; done) | (rw [Qc]; rfl) | (rw [Qc]; simp only [List.length_set, List.length_append, List.length_replicate]; rfl)
     ·skip
      try simp only [TN, simprocAttr, Qw.c0, h1, h2, e3, h4, e5, h6, eq_true h7, h8]
      refine ih _ _ _ H _ ?_
      first | (rw [Qc]; done) | (rw [Qc]; rfl) | (rw [Qc]; simp only [List.length_set, List.length_append, List.length_replicate]; rfl)
    ·skip
     injection H with H; subst H
     try simp only [TN, simprocAttr, Qw.c0, h1, h2, e3, h4, e5, h6, h7]
     try rfl
   ·skip
    injection H with H; subst H
    try simp only [TN, simprocAttr, Qw.c0, h1, h2, e3, h4, e5, h6]
    try rfl
  ·skip
   injection H with H; subst H
   try simp only [TN, simprocAttr, Qw.c0, h1, h2, e3, h4]
   try rfl
 ·skip
  obtain ⟨t3, e12, H⟩ := Qm H
  have e12 := Qao.link e12
  injection H with H; subst H
  try simp only [TN, simprocAttr, Qw.c0, h1, e12]
  try rfl
theorem Qw.w : ∀ k, Qw.P0 k := by
 intro k
 induction k with
 | zero => exact by intro l0 x3 r H; cases (show (none : Option Bool) = some r from H)
 | succ k ih => exact Qw.s0 k ih
theorem Qw.link {k : Nat} {l0 : List QQ} {r : Bool} (H : Qw.f k l0 = some r) : Qat env 86 [.deep false true 2 (l0.map QaA)] = some ([.b r], [none]) := by
 unfold Qw.f at H
 refine Qy (F := Qw.F) (tm := Qaw [(0, .slc 0 [] 0 2 0 l0.length)]) (rs := rsL [(0, some ⟨false, 2, 0, (l0.map QaA)⟩)]) (nx := 1) (ow := [false]) rfl (by rfl) (by simp only [SN]) (by simp only [SN]) (by decide) ?_
 show W env Qw.B _ (Qf [.t 2] [false] _)
 unfold Qw.B
 try simp only [TN, simprocAttr, Qw.c0]
 refine (Qw.w k) _ _ _ H _ ?_
 first | (rw [Qc]; done) | (rw [Qc]; rfl) | (rw [Qc]; simp only [List.length_set, List.length_append, List.length_replicate]; rfl)
end Go.Proofs.Ytinlbiphjgpmmaa.P
end
section
namespace Go.Proofs.Ytinlbiphjgpmmaa.P
open Go Go.RowKit Go.Proofs.Ytinlbiphjgpmmaa.V
def Qbo.f (k : Nat) (l0 : List QQ) (a1 : Int) : Option Bool := (Qw.f k l0).bind fun t1 => (if t1 = true then ((Qao.f a1 0 (wrap64 ((l0.length : Int) - 1))).bind fun t2 => (some t2)) else (some false))
theorem Qbo.link {k : Nat} {l0 : List QQ} {a1 : Int} {r : Bool} (H : Qbo.f k l0 a1 = some r) : Qat env 131 [.deep false true 2 (l0.map QaA), .i .i64 a1] = some ([.b r], [none]) := by
 unfold Qbo.f at H
 refine Qy (F := Qbo.F) (tm := Qaw [(0, .slc 0 [] 0 2 0 l0.length), (1, .i .i64 a1)]) (rs := rsL [(0, some ⟨false, 2, 0, (l0.map QaA)⟩)]) (nx := 1) (ow := [false]) rfl (by rfl) (by simp only [SN]) (by simp only [SN]) (by decide) ?_
 show W env Qbo.B _ (Qf [.t 4] [false] _)
 unfold Qbo.B
 obtain ⟨t1, e1, H⟩ := Qm H
 have e1 := Qw.link e1
 try simp only [TN, simprocAttr, e1]
 rcases Qa1 H with ⟨h2, H⟩ | ⟨h2, H⟩
 ·skip
  obtain ⟨t2, e3, H⟩ := Qm H
  have e3 := Qao.link e3
  injection H with H; subst H
  try simp only [TN, simprocAttr, e1, h2, e3]
  try rfl
 ·skip
  injection H with H; subst H
  try simp only [TN, simprocAttr, e1, h2]
  try rfl
end Go.Proofs.Ytinlbiphjgpmmaa.P
end
section
namespace Go.Proofs.Ytinlbiphjgpmmaa.P
open Go Go.RowKit Go.Proofs.Ytinlbiphjgpmmaa.V
def Q7.l0 : Nat → (List QQ) → Int → Int → Option Int
 | 0, _, _, _ => none
 | k + 1, l0, a1, x5 => if x5 < (l0.length : Int) then (if 0 ≤ x5 then (if 0 ≤ a1 then (if a1 < (l0.length : Int) then (if ((Qap l0 x5).f1) > ((Qap l0 a1).f1) then (Q7.l0 k l0 a1 (wrap64 (x5 + 1))) else (some x5)) else none) else none) else none) else (some x5)
def Q7.f (k : Nat) (l0 : List QQ) (a1 : Int) : Option Int := (Qbo.f k l0 a1).bind fun t1 => (if t1 = true then (Q7.l0 k l0 a1 (wrap64 (a1 + 1))) else (some (-1)))
def Q7.P0 (k : Nat) : Prop := ∀ (l0 : List QQ) (a1 : Int) (x5 : Int) (r : Int), Q7.l0 k l0 a1 x5 = some r → ∀ st, canon 1 [0, 1, 5] st = ⟨Qaw [(0, .slc 0 [] 0 2 0 l0.length), (1, .i .i64 a1), (5, .i .i64 x5)], rsL [(0, some ⟨false, 2, 0, (l0.map QaA)⟩)], 1⟩ → W env Q7.c1 st (Qb 0 (Qs env Q7.c0 (Qf [.t 4] [false] ([.i .i64 r], [none]))))
theorem Q7.s0 (k : Nat) (ih : Q7.P0 k) : Q7.P0 (k + 1) := by
 intro l0 a1 x5 r H st hst
 rw [Q7.l0] at H
 rw [Qax (show Q7.c1 = C.loop 1 [0, 1, 5] Q7.d1 from rfl), hst]
 unfold Q7.d1
 try simp only [TN, simprocAttr, Q7.c0]
 rcases QP H with ⟨h1, H⟩ | ⟨h1, H⟩
 ·skip
  obtain ⟨h2, H⟩ := Qr H
  obtain ⟨h3, H⟩ := Qr H
  obtain ⟨h4, H⟩ := Qr H
  try simp only [TN, simprocAttr, Q7.c0, h1, h2, h3, h4]
  rcases QP H with ⟨h5, H⟩ | ⟨h5, H⟩
  ·skip
   try simp only [TN, simprocAttr, Q7.c0, h1, h2, h3, h4, h5]
   refine ih _ _ _ _ H _ ?_
   first | (rw [Qc]; done) | (rw [Qc]; rfl) | (rw [Qc]; simp only [List.length_set, List.length_append, List.length_replicate]; rfl)
  ·skip
   injection H with H; subst H
   try simp only [TN, simprocAttr, Q7.c0, h1, h2, h3, h4, h5]
   try rfl
 ·skip
  injection H with H; subst H
  try simp only [TN, simprocAttr, Q7.c0, h1]
  try rfl
theorem Q7.w : ∀ k, Q7.P0 k := by
 intro k
 induction k with
 | zero => exact by intro l0 a1 x5 r H; cases (show (none : Option Int) = some r from H)
 | succ k ih => exact Q7.s0 k ih
theorem Q7.link {k : Nat} {l0 : List QQ} {a1 : Int} {r : Int} (H : Q7.f k l0 a1 = some r) : Qat env 118 [.deep false true 2 (l0.map QaA), .i .i64 a1] = some ([.i .i64 r], [none]) := by
 unfold Q7.f at H
 refine Qy (F := Q7.F) (tm := Qaw [(0, .slc 0 [] 0 2 0 l0.length), (1, .i .i64 a1)]) (rs := rsL [(0, some ⟨false, 2, 0, (l0.map QaA)⟩)]) (nx := 1) (ow := [false]) rfl (by rfl) (by simp only [SN]) (by simp only [SN]) (by decide) ?_
 show W env Q7.B _ (Qf [.t 4] [false] _)
 unfold Q7.B
 obtain ⟨t1, e1, H⟩ := Qm H
 have e1 := Qbo.link e1
 try simp only [TN, simprocAttr, Q7.c0, e1]
 rcases Qa1 H with ⟨h2, H⟩ | ⟨h2, H⟩
 ·skip
  try simp only [TN, simprocAttr, Q7.c0, e1, h2]
  refine (Q7.w k) _ _ _ _ H _ ?_
  first | (rw [Qc]; done) | (rw [Qc]; rfl) | (rw [Qc]; simp only [List.length_set, List.length_append, List.length_replicate]; rfl)
 ·skip
  injection H with H; subst H
  try simp only [TN, simprocAttr, Q7.c0, e1, h2]
  try rfl
end Go.Proofs.Ytinlbiphjgpmmaa.P
end
section
namespace Go.Proofs.Ytinlbiphjgpmmaa.P
open Go Go.RowKit Go.Proofs.Ytinlbiphjgpmmaa.V
def QN.l0 : Nat → (List QQ) → Int → (List Int) → Int → Option (List Int)
 | 0, _, _, _, _ => none
 | k + 1, l0, a1, x5, x6 => (Qbo.f k l0 a1).bind fun t1 => (if t1 = true then ((Q7.f k l0 a1).bind fun t2 => (if x6 < t2 then (if 0 ≤ x6 then (if x6 < (l0.length : Int) then (if 0 ≤ a1 then (if a1 < (l0.length : Int) then (if ((Qap l0 x6).f1) = (wrap64 (((Qap l0 a1).f1) + 1)) then (if x5.length < 17592186044416 then (QN.l0 k l0 a1 (x5 ++ ([x6])) (wrap64 (x6 + 1))) else none) else (QN.l0 k l0 a1 x5 (wrap64 (x6 + 1)))) else none) else none) else none) else none) else (some x5))) else (some x5))
def QN.f (k : Nat) (l0 : List QQ) (a1 : Int) : Option (List Int) := QN.l0 k l0 a1 ([] : List Int) (wrap64 (a1 + 1))
def QN.P0 (k : Nat) : Prop := ∀ (l0 : List QQ) (a1 : Int) (x5 : List Int) (x6 : Int) (r : (List Int)), QN.l0 k l0 a1 x5 x6 = some r → ∀ st, canon 1 [0, 1, 5, 6] st = ⟨Qaw [(0, .slc 0 [] 0 2 0 l0.length), (1, .i .i64 a1), (5, .slc 1 [] 0 1 0 x5.length), (6, .i .i64 x6)], rsL [(0, some ⟨false, 2, 0, (l0.map QaA)⟩), (1, some ⟨true, 1, 0, (x5.map eI)⟩)], 2⟩ → W env QN.c1 st (Qb 0 (Qs env QN.c0 (Qf [.t 4] [false] ([.deep false false 1 (r.map eI)], [none]))))
theorem QN.s0 (k : Nat) (ih : QN.P0 k) : QN.P0 (k + 1) := by
 intro l0 a1 x5 x6 r H st hst
 rw [QN.l0] at H
 rw [Qax (show QN.c1 = C.loop 1 [0, 1, 5, 6] QN.d1 from rfl), hst]
 unfold QN.d1
 obtain ⟨t1, e1, H⟩ := Qm H
 have e1 := Qbo.link e1
 try simp only [TN, simprocAttr, QN.c0, e1]
 rcases Qa1 H with ⟨h2, H⟩ | ⟨h2, H⟩
 ·skip
  obtain ⟨t2, e3, H⟩ := Qm H
  have e3 := Q7.link e3
  try simp only [TN, simprocAttr, QN.c0, e1, h2, e3]
  rcases QP H with ⟨h4, H⟩ | ⟨h4, H⟩
  ·skip
   obtain ⟨h5, H⟩ := Qr H
   obtain ⟨h6, H⟩ := Qr H
   obtain ⟨h7, H⟩ := Qr H
   obtain ⟨h8, H⟩ := Qr H
   try simp only [TN, simprocAttr, QN.c0, e1, h2, e3, h4, h5, h6, h7, h8]
   rcases QP H with ⟨h9, H⟩ | ⟨h9, H⟩
   ·skip
    obtain ⟨h10, H⟩ := Qr H
    have h11 : (x5.length + 1) * 8 ≤ 140737488355328 := by omega
    try simp only [TN, simprocAttr, QN.c0, e1, h2, e3, h4, h5, h6, h7, h8, eq_true h9, h10, h11]
    refine ih _ _ _ _ _ H _ ?_
    first | (rw [Qc]; done) | (rw [Qc]; rfl) | (rw [Qc]; simp only [List.length_set, List.length_append, List.length_replicate]; rfl)
   ·skip
    try simp only [TN, simprocAttr, QN.c0, e1, h2, e3, h4, h5, h6, h7, h8, h9]
    refine ih _ _ _ _ _ H _ ?_
    first | (rw [Qc]; done) | (rw [Qc]; rfl) | (rw [Qc]; simp only [List.length_set, List.length_append, List.length_replicate]; rfl)
  ·skip
   injection H with H; subst H
   try simp only [TN, simprocAttr, QN.c0, e1, h2, e3, h4]
   try rfl
 ·skip
  injection H with H; subst H
  try simp only [TN, simprocAttr, QN.c0, e1, h2]
  try rfl
theorem QN.w : ∀ k, QN.P0 k := by
 intro k
 induction k with
 | zero => exact by intro l0 a1 x5 x6 r H; cases (show (none : Option (List Int)) = some r from H)
 | succ k ih => exact QN.s0 k ih
theorem QN.link {k : Nat} {l0 : List QQ} {a1 : Int} {r : (List Int)} (H : QN.f k l0 a1 = some r) : Qat env 120 [.deep false true 2 (l0.map QaA), .i .i64 a1] = some ([.deep false false 1 (r.map eI)], [none]) := by
 unfold QN.f at H
 refine Qy (F := QN.F) (tm := Qaw [(0, .slc 0 [] 0 2 0 l0.length), (1, .i .i64 a1)]) (rs := rsL [(0, some ⟨false, 2, 0, (l0.map QaA)⟩)]) (nx := 1) (ow := [false]) rfl (by rfl) (by simp only [SN]) (by simp only [SN]) (by decide) ?_
 show W env QN.B _ (Qf [.t 4] [false] _)
 unfold QN.B
 try simp only [TN, simprocAttr, QN.c0]
 refine (QN.w k) _ _ _ _ _ H _ ?_
 first | (rw [Qc]; done) | (rw [Qc]; rfl) | (rw [Qc]; simp only [List.length_set, List.length_append, List.length_replicate]; rfl)
end Go.Proofs.Ytinlbiphjgpmmaa.P
end
section
namespace Go.Proofs.Ytinlbiphjgpmmaa.P
open Go Go.RowKit Go.Proofs.Ytinlbiphjgpmmaa.V
def QV.l0 : Nat → (List QQ) → (List Int) → Int → Int → Option Int
 | 0, _, _, _, _ => none
 | k + 1, l0, l1, x5, x6 => if x6 < (l1.length : Int) then ((QN.f k l0 x5).bind fun t2 => (if 0 ≤ x6 then ((Qao.f (rd l1 x6) 0 (wrap64 ((t2.length : Int) - 1))).bind fun t3 => (if t3 = true then (if 0 ≤ rd l1 x6 then (if rd l1 x6 < (t2.length : Int) then (QV.l0 k l0 l1 (rd t2 (rd l1 x6)) (wrap64 (x6 + 1))) else none) else none) else (some (-1)))) else none)) else (some x5)
def QV.f (k : Nat) (l0 : List QQ) (l1 : List Int) : Option Int := (Qw.f k l0).bind fun t1 => (if t1 = true then (QV.l0 k l0 l1 0 0) else (some (-1)))
def QV.P0 (k : Nat) : Prop := ∀ (l0 : List QQ) (l1 : List Int) (x5 : Int) (x6 : Int) (r : Int), QV.l0 k l0 l1 x5 x6 = some r → ∀ st, canon 2 [0, 1, 5, 6] st = ⟨Qaw [(0, .slc 0 [] 0 2 0 l0.length), (1, .slc 1 [] 0 1 0 l1.length), (5, .i .i64 x5), (6, .i .i64 x6)], rsL [(0, some ⟨false, 2, 0, (l0.map QaA)⟩), (1, some ⟨false, 1, 0, (l1.map eI)⟩)], 2⟩ → W env QV.c1 st (Qb 0 (Qs env QV.c0 (Qf [.t 4] [false, false] ([.i .i64 r], [none, none]))))
theorem QV.s0 (k : Nat) (ih : QV.P0 k) : QV.P0 (k + 1) := by
 intro l0 l1 x5 x6 r H st hst
 rw [QV.l0] at H
 rw [Qax (show QV.c1 = C.loop 2 [0, 1, 5, 6] QV.d1 from rfl), hst]
 unfold QV.d1
 try simp only [TN, simprocAttr, QV.c0]
 rcases QP H with ⟨h1, H⟩ | ⟨h1, H⟩
 ·skip
  obtain ⟨t2, e2, H⟩ := Qm H
  have e2 := QN.link e2
  obtain ⟨h3, H⟩ := Qr H
  obtain ⟨t3, e4, H⟩ := Qm H
  have e4 := Qao.link e4
  try simp only [TN, simprocAttr, QV.c0, h1, e2, h3, e4]
  rcases Qa1 H with ⟨h5, H⟩ | ⟨h5, H⟩
  ·skip
   obtain ⟨h6, H⟩ := Qr H
   obtain ⟨h7, H⟩ := Qr H
   try simp only [TN, simprocAttr, QV.c0, h1, e2, h3, e4, h5, h6, h7]
   refine ih _ _ _ _ _ H _ ?_
   first | (rw [Qc]; done) | (rw [Qc]; rfl) | (rw [Qc]; simp only [List.length_set, List.length_append, List.length_replicate]; rfl)
  ·skip
   injection H with H; subst H
   try simp only [TN, simprocAttr, QV.c0, h1, e2, h3, e4, h5]
   try rfl
 ·skip
  injection H with H; subst H
  try simp only [TN, simprocAttr, QV.c0, h1]
  try rfl
theorem QV.w : ∀ k, QV.P0 k := by
 intro k
 induction k with
 | zero => exact by intro l0 l1 x5 x6 r H; cases (show (none : Option Int) = some r from H)
 | succ k ih => exact QV.s0 k ih
theorem QV.link {k : Nat} {l0 : List QQ} {l1 : List Int} {r : Int} (H : QV.f k l0 l1 = some r) : Qat env 116 [.deep false true 2 (l0.map QaA), .deep false true 1 (l1.map eI)] = some ([.i .i64 r], [none, none]) := by
 unfold QV.f at H
 refine Qy (F := QV.F) (tm := Qaw [(0, .slc 0 [] 0 2 0 l0.length), (1, .slc 1 [] 0 1 0 l1.length)]) (rs := rsL [(0, some ⟨false, 2, 0, (l0.map QaA)⟩), (1, some ⟨false, 1, 0, (l1.map eI)⟩)]) (nx := 2) (ow := [false, false]) rfl (by rfl) (by simp only [SN]) (by simp only [SN]) (by decide) ?_
 show W env QV.B _ (Qf [.t 4] [false, false] _)
 unfold QV.B
 obtain ⟨t1, e1, H⟩ := Qm H
 have e1 := Qw.link e1
 try simp only [TN, simprocAttr, QV.c0, e1]
 rcases Qa1 H with ⟨h2, H⟩ | ⟨h2, H⟩
 ·skip
  try simp only [TN, simprocAttr, QV.c0, e1, h2]
  refine (QV.w k) _ _ _ _ _ H _ ?_
  first | (rw [Qc]; done) | (rw [Qc]; rfl) | (rw [Qc]; simp only [List.length_set, List.length_append, List.length_replicate]; rfl)
 ·skip
  injection H with H; subst H
  try simp only [TN, simprocAttr, QV.c0, e1, h2]
  try rfl
end Go.Proofs.Ytinlbiphjgpmmaa.P
end
section
namespace Go.Proofs.Ytinlbiphjgpmmaa.P
open Go Go.RowKit Go.Proofs.Ytinlbiphjgpmmaa.V
def Qq.l0 : Nat → (List QQ) → Int → Int → Int → Int → (List Int) → Option (Int × Int × Int)
 | 0, _, _, _, _, _, _ => none
 | k + 1, l0, x10, x11, x12, x13, l1_1 => if x13 < x11 then (if 0 ≤ x13 then (if x13 < (l0.length : Int) then (Qq.l0 k l0 x10 x11 (mx x12 (wrap64 (((Qap l0 x13).f1) + 1))) (wrap64 (x13 + 1)) l1_1) else none) else none) else (if x12 > 12 then (some (7, 0, 0)) else (some (0, x10, x11)))
def Qq.f (k : Nat) (l0 : List QQ) (a1_0 : Int) (l1_1 : List Int) (a1_2 : Int) (a1_3 : Int) (a1_4 : Int) (a2 : Int) : Option (Int × Int × Int) := (Qao.f a1_0 1 3).bind fun t1 => (if t1 = true then (if a2 < 0 then (some (2, 0, 0)) else (if a1_0 = 2 then (if a2 = 0 then (some (4, 0, 0)) else (if a1_0 = 3 then ((QN.f k l0 a2).bind fun t2 => ((Qao.f a1_3 0 (t2.length : Int)).bind fun t3 => (if t3 = true then ((Qao.f a1_4 0 (wrap64 ((t2.length : Int) - a1_3))).bind fun t4 => (if t4 = true then ((Q7.f k l0 a2).bind fun t5 => (if t2.length < 17592186044416 then ((some (t2 ++ ([t5]) : List Int)).bind fun y0 => (if 0 ≤ a1_3 then (if a1_3 < (y0.length : Int) then (if 0 ≤ wrap64 (a1_3 + a1_4) then (if wrap64 (a1_3 + a1_4) < (y0.length : Int) then (if (l0.length : Int) = 24 then (some (6, 0, 0)) else (if 0 ≤ a2 then (if a2 < (l0.length : Int) then (Qq.l0 k l0 (rd y0 a1_3) (rd y0 (wrap64 (a1_3 + a1_4))) (wrap64 (((Qap l0 a2).f1) + 1)) (rd y0 a1_3) l1_1) else none) else none)) else none) else none) else none) else none)) else none)) else (some (5, 0, 0)))) else (some (5, 0, 0))))) else (some (0, 0, 0)))) else ((QaD.f a1_2).bind fun t6 => (if t6 = true then (if a1_0 = 3 then ((QN.f k l0 a2).bind fun t7 => ((Qao.f a1_3 0 (t7.length : Int)).bind fun t8 => (if t8 = true then ((Qao.f a1_4 0 (wrap64 ((t7.length : Int) - a1_3))).bind fun t9 => (if t9 = true then ((Q7.f k l0 a2).bind fun t10 => (if t7.length < 17592186044416 then ((some (t7 ++ ([t10]) : List Int)).bind fun y1 => (if 0 ≤ a1_3 then (if a1_3 < (y1.length : Int) then (if 0 ≤ wrap64 (a1_3 + a1_4) then (if wrap64 (a1_3 + a1_4) < (y1.length : Int) then (if (l0.length : Int) = 24 then (some (6, 0, 0)) else (if 0 ≤ a2 then (if a2 < (l0.length : Int) then (Qq.l0 k l0 (rd y1 a1_3) (rd y1 (wrap64 (a1_3 + a1_4))) (wrap64 (((Qap l0 a2).f1) + 1)) (rd y1 a1_3) l1_1) else none) else none)) else none) else none) else none) else none)) else none)) else (some (5, 0, 0)))) else (some (5, 0, 0))))) else (some (0, 0, 0))) else (some (3, 0, 0)))))) else (some (1, 0, 0)))
def Qq.P0 (k : Nat) : Prop := ∀ (l0 : List QQ) (x10 : Int) (x11 : Int) (x12 : Int) (x13 : Int) (l1_1 : List Int) (r : Int × Int × Int), Qq.l0 k l0 x10 x11 x12 x13 l1_1 = some r → ∀ st, canon 2 [0, 10, 11, 12, 13] st = ⟨Qaw [(0, .slc 0 [] 0 2 0 l0.length), (10, .i .i64 x10), (11, .i .i64 x11), (12, .i .i64 x12), (13, .i .i64 x13)], rsL [(0, some ⟨false, 2, 0, (l0.map QaA)⟩), (1, some ⟨false, 1, 0, (l1_1.map eI)⟩)], 2⟩ → W env Qq.c1 st (Qb 1 (Qs env Qq.c0 (Qf [.t 6, .t 7, .t 8] [false, false] ([.i .i64 r.1, .i .i64 r.2.1, .i .i64 r.2.2], [none, none]))))
theorem Qq.s0 (k : Nat) (ih : Qq.P0 k) : Qq.P0 (k + 1) := by
 intro l0 x10 x11 x12 x13 l1_1 r H st hst
 rw [Qq.l0] at H
 rw [Qax (show Qq.c1 = C.loop 2 [0, 10, 11, 12, 13] Qq.d1 from rfl), hst]
 unfold Qq.d1
 try simp only [TN, simprocAttr, Qq.c0]
 rcases QP H with ⟨h1, H⟩ | ⟨h1, H⟩
 ·skip
  obtain ⟨h2, H⟩ := Qr H
  obtain ⟨h3, H⟩ := Qr H
  try simp only [TN, simprocAttr, Qq.c0, h1, h2, h3]
  refine ih _ _ _ _ _ _ _ H _ ?_
  first | (rw [Qc]; done) | (rw [Qc]; rfl) | (rw [Qc]; simp only [List.length_set, List.length_append, List.length_replicate]; rfl)
 ·skip
  try simp only [TN, simprocAttr, Qq.c0, h1]
  rcases QP H with ⟨h4, H⟩ | ⟨h4, H⟩
  ·skip
   injection H with H; subst H
   try simp only [TN, simprocAttr, Qq.c0, h1, h4]
   try rfl
  ·skip
   injection H with H; subst H
   try simp only [TN, simprocAttr, Qq.c0, h1, h4]
   try rfl
theorem Qq.w : ∀ k, Qq.P0 k := by
 intro k
 induction k with
 | zero => exact by intro l0 x10 x11 x12 x13 l1_1 r H; cases (show (none : Option (Int × Int × Int)) = some r from H)
 | succ k ih => exact Qq.s0 k ih
theorem Qq.link {k : Nat} {l0 : List QQ} {a1_0 : Int} {l1_1 : List Int} {a1_2 : Int} {a1_3 : Int} {a1_4 : Int} {a2 : Int} {r : Int × Int × Int} (H : Qq.f k l0 a1_0 l1_1 a1_2 a1_3 a1_4 a2 = some r) : Qat env 117 [.deep false true 2 (l0.map QaA), .agg [.i .i64 a1_0, .deep false true 1 (l1_1.map eI), .i .i64 a1_2, .i .i64 a1_3, .i .i64 a1_4], .i .i64 a2] = some ([.i .i64 r.1, .i .i64 r.2.1, .i .i64 r.2.2], [none, none]) := by
 unfold Qq.f at H
 refine Qy (F := Qq.F) (tm := Qaw [(0, .slc 0 [] 0 2 0 l0.length), (1, .agg [.i .i64 a1_0, .slc 1 [] 0 1 0 l1_1.length, .i .i64 a1_2, .i .i64 a1_3, .i .i64 a1_4]), (2, .i .i64 a2)]) (rs := rsL [(0, some ⟨false, 2, 0, (l0.map QaA)⟩), (1, some ⟨false, 1, 0, (l1_1.map eI)⟩)]) (nx := 2) (ow := [false, false]) rfl (by rfl) (by simp only [SN]) (by simp only [SN]) (by decide) ?_
 show W env Qq.B _ (Qf [.t 6, .t 7, .t 8] [false, false] _)
 unfold Qq.B
 obtain ⟨t1, e1, H⟩ := Qm H
 have e1 := Qao.link e1
 try simp only [TN, simprocAttr, Qq.c0, e1]
 rcases Qa1 H with ⟨h2, H⟩ | ⟨h2, H⟩
 ·skip
  try simp only [TN, simprocAttr, Qq.c0, e1, h2]
  rcases QP H with ⟨h3, H⟩ | ⟨h3, H⟩
  ·skip
   injection H with H; subst H
   try simp only [TN, simprocAttr, Qq.c0, e1, h2, h3]
   try rfl
  ·skip
   try simp only [TN, simprocAttr, Qq.c0, e1, h2, h3]
   rcases QP H with ⟨h4, H⟩ | ⟨h4, H⟩
   ·skip
    try simp only [TN, simprocAttr, Qq.c0, e1, h2, h3, eq_true h4]
    rcases QP H with ⟨h5, H⟩ | ⟨h5, H⟩
    ·skip
     injection H with H; subst H
     try simp only [TN, simprocAttr, Qq.c0, e1, h2, h3, eq_true h4, eq_true h5]
     try rfl
    ·skip
     try simp only [TN, simprocAttr, Qq.c0, e1, h2, h3, eq_true h4, h5]
     rcases QP H with ⟨h6, H⟩ | ⟨h6, H⟩
     ·skip
      obtain ⟨t2, e7, H⟩ := Qm H
      have e7 := QN.link e7
      obtain ⟨t3, e8, H⟩ := Qm H
      have e8 := Qao.link e8
      try simp only [TN, simprocAttr, Qq.c0, e1, h2, h3, eq_true h4, h5, eq_true h6, e7, e8]
      rcases Qa1 H with ⟨h9, H⟩ | ⟨h9, H⟩
      ·skip
       obtain ⟨t4, e10, H⟩ := Qm H
       have e10 := Qao.link e10
       try simp only [TN, simprocAttr, Qq.c0, e1, h2, h3, eq_true h4, h5, eq_true h6, e7, e8, h9, e10]
       rcases Qa1 H with ⟨h11, H⟩ | ⟨h11, H⟩
       ·skip
        obtain ⟨t5, e12, H⟩ := Qm H
        have e12 := Q7.link e12
        obtain ⟨h13, H⟩ := Qr H
        have h14 : (t2.length + 1) * 8 ≤ 140737488355328 := by omega
        obtain ⟨_, hy15, H⟩ := Qbx H; subst hy15
        obtain ⟨h16, H⟩ := Qr H
        obtain ⟨h17, H⟩ := Qr H
        obtain ⟨h18, H⟩ := Qr H
        obtain ⟨h19, H⟩ := Qr H
        try simp only [TN, simprocAttr, Qq.c0, e1, h2, h3, eq_true h4, h5, eq_true h6, e7, e8, h9, e10, h11, e12, h13, h14, h16, h17, h18, h19]
        rcases QP H with ⟨h20, H⟩ | ⟨h20, H⟩
        ·skip
         injection H with H; subst H
         try simp only [TN, simprocAttr, Qq.c0, e1, h2, h3, eq_true h4, h5, eq_true h6, e7, e8, h9, e10, h11, e12, h13, h14, h16, h17, h18, h19, eq_true h20]
         try rfl
        ·skip
         obtain ⟨h21, H⟩ := Qr H
         obtain ⟨h22, H⟩ := Qr H
         try simp only [TN, simprocAttr, Qq.c0, e1, h2, h3, eq_true h4, h5, eq_true h6, e7, e8, h9, e10, h11, e12, h13, h14, h16, h17, h18, h19, h20, h21, h22]
         refine (Qq.w k) _ _ _ _ _ _ _ H _ ?_
         first | (rw [Qc]; done) | (rw [Qc]; rfl) | (rw [Qc]; simp only [List.length_set, List.length_append, List.length_replicate]; rfl)
       ·skip
        injection H with H; subst H
        try simp only [TN, simprocAttr, Qq.c0, e1, h2, h3, eq_true h4, h5, eq_true h6, e7, e8, h9, e10, h11]
        try rfl
      ·skip
       injection H with H; subst H
       try simp only [TN, simprocAttr, Qq.c0, e1, h2, h3, eq_true h4, h5, eq_true h6, e7, e8, h9]
       try rfl
     ·skip
      injection H with H; subst H
      try simp only [TN, simprocAttr, Qq.c0, e1, h2, h3, eq_true h4, h5, h6]
      try rfl
   ·skip
    obtain ⟨t6, e23, H⟩ := Qm H
    have e23 := QaD.link e23
    try simp only [TN, simprocAttr, Qq.c0, e1, h2, h3, h4, e23]
    rcases Qa1 H with ⟨h24, H⟩ | ⟨h24, H⟩
    ·skip
     try simp only [TN, simprocAttr, Qq.c0, e1, h2, h3, h4, e23, h24]
     rcases QP H with ⟨h25, H⟩ | ⟨h25, H⟩
     ·skip
      obtain ⟨t7, e26, H⟩ := Qm H
      have e26 := QN.link e26
      obtain ⟨t8, e27, H⟩ := Qm H
      have e27 := Qao.link e27
      try simp only [TN, simprocAttr, Qq.c0, e1, h2, h3, h4, e23, h24, eq_true h25, e26, e27]
      rcases Qa1 H with ⟨h28, H⟩ | ⟨h28, H⟩
      ·skip
       obtain ⟨t9, e29, H⟩ := Qm H
       have e29 := Qao.link e29
       try simp only [TN, simprocAttr, Qq.c0, e1, h2, h3, h4, e23, h24, eq_true h25, e26, e27, h28, e29]
       rcases Qa1 H with ⟨h30, H⟩ | ⟨h30, H⟩
       ·skip
        obtain ⟨t10, e31, H⟩ := Qm H
        have e31 := Q7.link e31
        obtain ⟨h32, H⟩ := Qr H
        have h33 : (t7.length + 1) * 8 ≤ 140737488355328 := by omega
        obtain ⟨_, hy34, H⟩ := Qbx H; subst hy34
        obtain ⟨h35, H⟩ := Qr H
        obtain ⟨h36, H⟩ := Qr H
        obtain ⟨h37, H⟩ := Qr H
        obtain ⟨h38, H⟩ := Qr H
        try simp only [TN, simprocAttr, Qq.c0, e1, h2, h3, h4, e23, h24, eq_true h25, e26, e27, h28, e29, h30, e31, h32, h33, h35, h36, h37, h38]
        rcases QP H with ⟨h39, H⟩ | ⟨h39, H⟩
        ·skip
         injection H with H; subst H
         try simp only [TN, simprocAttr, Qq.c0, e1, h2, h3, h4, e23, h24, eq_true h25, e26, e27, h28, e29, h30, e31, h32, h33, h35, h36, h37, h38, eq_true h39]
         try rfl
        ·skip
         obtain ⟨h40, H⟩ := Qr H
         obtain ⟨h41, H⟩ := Qr H
         try simp only [TN, simprocAttr, Qq.c0, e1, h2, h3, h4, e23, h24, eq_true h25, e26, e27, h28, e29, h30, e31, h32, h33, h35, h36, h37, h38, h39, h40, h41]
         refine (Qq.w k) _ _ _ _ _ _ _ H _ ?_
         first | (rw [Qc]; done) | (rw [Qc]; rfl) | (rw [Qc]; simp only [List.length_set, List.length_append, List.length_replicate]; rfl)
       ·skip
        injection H with H; subst H
        try simp only [TN, simprocAttr, Qq.c0, e1, h2, h3, h4, e23, h24, eq_true h25, e26, e27, h28, e29, h30]
        try rfl
      ·skip
       injection H with H; subst H
       try simp only [TN, simprocAttr, Qq.c0, e1, h2, h3, h4, e23, h24, eq_true h25, e26, e27, h28]
       try rfl
     ·skip
      injection H with H; subst H
      try simp only [TN, simprocAttr, Qq.c0, e1, h2, h3, h4, e23, h24, h25]
      try rfl
    ·skip
     injection H with H; subst H
     try simp only [TN, simprocAttr, Qq.c0, e1, h2, h3, h4, e23, h24]
     try rfl
 ·skip
  injection H with H; subst H
  try simp only [TN, simprocAttr, Qq.c0, e1, h2]
  try rfl
end Go.Proofs.Ytinlbiphjgpmmaa.P
end
section
namespace Go.Proofs.Ytinlbiphjgpmmaa.P
open Go Go.RowKit Go.Proofs.Ytinlbiphjgpmmaa.V
def Qx.l0 : Nat → (List QQ) → Int → Int → (List QQ) → Int → Option (List QQ)
 | 0, _, _, _, _, _ => none
 | k + 1, l0, a2, a3, x9, a1 => if a1 < a2 then (if 0 ≤ a1 then (if a1 < (l0.length : Int) then (if x9.length < 8796093022208 then (Qx.l0 k l0 a2 a3 (x9 ++ ([(⟨(Qap l0 a1).f0, wrap64 (((Qap l0 a1).f1) + a3)⟩ : QQ)])) (wrap64 (a1 + 1))) else none) else none) else none) else (some x9)
def Qx.f (k : Nat) (l0 : List QQ) (a1 : Int) (a2 : Int) (a3 : Int) : Option (List QQ) := Qx.l0 k l0 a2 a3 ([] : List QQ) a1
def Qx.P0 (k : Nat) : Prop := ∀ (l0 : List QQ) (a2 : Int) (a3 : Int) (x9 : List QQ) (a1 : Int) (r : (List QQ)), Qx.l0 k l0 a2 a3 x9 a1 = some r → ∀ st, canon 1 [0, 2, 3, 9, 10] st = ⟨Qaw [(0, .slc 0 [] 0 2 0 l0.length), (2, .i .i64 a2), (3, .i .i64 a3), (9, .slc 1 [] 0 2 0 x9.length), (10, .i .i64 a1)], rsL [(0, some ⟨false, 2, 0, (l0.map QaA)⟩), (1, some ⟨true, 2, 0, (x9.map QaA)⟩)], 2⟩ → W env Qx.c1 st (Qb 0 (Qs env Qx.c0 (Qf [.t 8] [false] ([.deep false false 2 (r.map QaA)], [none]))))
theorem Qx.s0 (k : Nat) (ih : Qx.P0 k) : Qx.P0 (k + 1) := by
 intro l0 a2 a3 x9 a1 r H st hst
 rw [Qx.l0] at H
 rw [Qax (show Qx.c1 = C.loop 1 [0, 2, 3, 9, 10] Qx.d1 from rfl), hst]
 unfold Qx.d1
 try simp only [TN, simprocAttr, Qx.c0]
 rcases QP H with ⟨h1, H⟩ | ⟨h1, H⟩
 ·skip
  obtain ⟨h2, H⟩ := Qr H
  obtain ⟨h3, H⟩ := Qr H
  obtain ⟨h4, H⟩ := Qr H
  have h5 : (x9.length + 1) * 16 ≤ 140737488355328 := by omega
  try simp only [TN, simprocAttr, Qx.c0, h1, h2, h3, @Qem, h4, h5]
  refine ih _ _ _ _ _ _ H _ ?_
  first | (rw [Qc]; done) | (rw [Qc]; rfl) | (rw [Qc]; simp only [List.length_set, List.length_append, List.length_replicate]; rfl)
 ·skip
  injection H with H; subst H
  try simp only [TN, simprocAttr, Qx.c0, h1]
  try rfl
theorem Qx.w : ∀ k, Qx.P0 k := by
 intro k
 induction k with
 | zero => exact by intro l0 a2 a3 x9 a1 r H; cases (show (none : Option (List QQ)) = some r from H)
 | succ k ih => exact Qx.s0 k ih
theorem Qx.link {k : Nat} {l0 : List QQ} {a1 : Int} {a2 : Int} {a3 : Int} {r : (List QQ)} (H : Qx.f k l0 a1 a2 a3 = some r) : Qat env 119 [.deep false true 2 (l0.map QaA), .i .i64 a1, .i .i64 a2, .i .i64 a3] = some ([.deep false false 2 (r.map QaA)], [none]) := by
 unfold Qx.f at H
 refine Qy (F := Qx.F) (tm := Qaw [(0, .slc 0 [] 0 2 0 l0.length), (1, .i .i64 a1), (2, .i .i64 a2), (3, .i .i64 a3)]) (rs := rsL [(0, some ⟨false, 2, 0, (l0.map QaA)⟩)]) (nx := 1) (ow := [false]) rfl (by rfl) (by simp only [SN]) (by simp only [SN]) (by decide) ?_
 show W env Qx.B _ (Qf [.t 8] [false] _)
 unfold Qx.B
 try simp only [TN, simprocAttr, Qx.c0]
 refine (Qx.w k) _ _ _ _ _ _ H _ ?_
 first | (rw [Qc]; done) | (rw [Qc]; rfl) | (rw [Qc]; simp only [List.length_set, List.length_append, List.length_replicate]; rfl)
end Go.Proofs.Ytinlbiphjgpmmaa.P
end
section
namespace Go.Proofs.Ytinlbiphjgpmmaa.P
open Go Go.RowKit Go.Proofs.Ytinlbiphjgpmmaa.V
def QaK.f (k : Nat) (l0 : List QQ) (a1_0 : Int) (l1_1 : List Int) (a1_2 : Int) (a1_3 : Int) (a1_4 : Int) : Option ((List QQ) × Int) := (Qw.f k l0).bind fun t1 => (if t1 = true then ((QV.f k l0 l1_1).bind fun t2 => ((Qam.f l0).bind fun t3 => ((Qq.f k l0 a1_0 l1_1 a1_2 a1_3 a1_4 t2).bind fun bt4 => (if bt4.1 = 0 then (if a1_0 = 1 then (if 0 ≤ t2 then (if t2 < (t3.length : Int) then (some ((t3.set (t2 : Int).toNat (⟨a1_2, (Qap t3 t2).f1⟩ : QQ)), bt4.1)) else none) else none) else (if a1_0 = 2 then ((Q7.f k l0 t2).bind fun t5 => ((Qx.f k l0 0 t2 0).bind fun t6 => ((Qx.f k l0 (wrap64 (t2 + 1)) t5 (-1)).bind fun t7 => (if (t6.length + t7.length) * 16 ≤ 140737488355328 then ((some (t6 ++ t7 : List QQ)).bind fun y1 => ((Qx.f k l0 t5 (l0.length : Int) 0).bind fun t8 => (if (y1.length + t8.length) * 16 ≤ 140737488355328 then (some ((y1 ++ t8), bt4.1)) else none))) else none)))) else (if 0 ≤ t2 then (if t2 < (l0.length : Int) then ((Qx.f k l0 0 bt4.2.1 0).bind fun t9 => (if t9.length < 8796093022208 then ((some (t9 ++ ([(⟨a1_2, wrap64 (((Qap l0 t2).f1) + 1)⟩ : QQ)]) : List QQ)).bind fun y3 => ((Qx.f k l0 bt4.2.1 bt4.2.2 1).bind fun t10 => (if (y3.length + t10.length) * 16 ≤ 140737488355328 then ((some (y3 ++ t10 : List QQ)).bind fun y4 => ((Qx.f k l0 bt4.2.2 (l0.length : Int) 0).bind fun t11 => (if (y4.length + t11.length) * 16 ≤ 140737488355328 then (some ((y4 ++ t11), bt4.1)) else none))) else none))) else none)) else none) else none))) else (some (t3, bt4.1)))))) else (some (([] : List QQ), 2)))
theorem QaK.link {k : Nat} {l0 : List QQ} {a1_0 : Int} {l1_1 : List Int} {a1_2 : Int} {a1_3 : Int} {a1_4 : Int} {r : (List QQ) × Int} (H : QaK.f k l0 a1_0 l1_1 a1_2 a1_3 a1_4 = some r) : Qat env 97 [.deep false true 2 (l0.map QaA), .agg [.i .i64 a1_0, .deep false true 1 (l1_1.map eI), .i .i64 a1_2, .i .i64 a1_3, .i .i64 a1_4]] = some ([.deep false false 2 (r.1.map QaA), .i .i64 r.2], [none, none]) := by
 unfold QaK.f at H
 refine Qy (F := QaK.F) (tm := Qaw [(0, .slc 0 [] 0 2 0 l0.length), (1, .agg [.i .i64 a1_0, .slc 1 [] 0 1 0 l1_1.length, .i .i64 a1_2, .i .i64 a1_3, .i .i64 a1_4])]) (rs := rsL [(0, some ⟨false, 2, 0, (l0.map QaA)⟩), (1, some ⟨false, 1, 0, (l1_1.map eI)⟩)]) (nx := 2) (ow := [false, false]) rfl (by rfl) (by simp only [SN]) (by simp only [SN]) (by decide) ?_
 show W env QaK.B _ (Qf [.t 4, .t 5] [false, false] _)
 unfold QaK.B
 obtain ⟨t1, e1, H⟩ := Qm H
 have e1 := Qw.link e1
 try simp only [TN, simprocAttr, e1]
 rcases Qa1 H with ⟨h2, H⟩ | ⟨h2, H⟩
 ·skip
  obtain ⟨t2, e3, H⟩ := Qm H
  have e3 := QV.link e3
  obtain ⟨t3, e4, H⟩ := Qm H
  have e4 := Qam.link e4
  obtain ⟨bt4, e5, H⟩ := Qm H
  have e5 := Qq.link e5
  try simp only [TN, simprocAttr, e1, h2, e3, e4, e5]
  rcases QP H with ⟨h6, H⟩ | ⟨h6, H⟩
  ·skip
   try simp only [TN, simprocAttr, e1, h2, e3, e4, e5, eq_true h6]
   rcases QP H with ⟨h7, H⟩ | ⟨h7, H⟩
   ·skip
    obtain ⟨h8, H⟩ := Qr H
    obtain ⟨h9, H⟩ := Qr H
    injection H with H; subst H
    try simp only [TN, simprocAttr, e1, h2, e3, e4, e5, eq_true h6, eq_true h7, h8, h9]
    try rfl
   ·skip
    try simp only [TN, simprocAttr, e1, h2, e3, e4, e5, eq_true h6, h7]
    rcases QP H with ⟨h10, H⟩ | ⟨h10, H⟩
    ·skip
     obtain ⟨t5, e11, H⟩ := Qm H
     have e11 := Q7.link e11
     obtain ⟨t6, e12, H⟩ := Qm H
     have e12 := Qx.link e12
     obtain ⟨t7, e13, H⟩ := Qm H
     have e13 := Qx.link e13
     obtain ⟨h14, H⟩ := Qr H
     obtain ⟨_, hy15, H⟩ := Qbx H; subst hy15
     obtain ⟨t8, e16, H⟩ := Qm H
     have e16 := Qx.link e16
     obtain ⟨h17, H⟩ := Qr H
     injection H with H; subst H
     try simp only [TN, simprocAttr, e1, h2, e3, e4, e5, eq_true h6, h7, eq_true h10, e11, e12, e13, h14, e16, h17]
     try rfl
    ·skip
     obtain ⟨h18, H⟩ := Qr H
     obtain ⟨h19, H⟩ := Qr H
     obtain ⟨t9, e20, H⟩ := Qm H
     have e20 := Qx.link e20
     obtain ⟨h21, H⟩ := Qr H
     have h22 : (t9.length + 1) * 16 ≤ 140737488355328 := by omega
     obtain ⟨_, hy23, H⟩ := Qbx H; subst hy23
     obtain ⟨t10, e24, H⟩ := Qm H
     have e24 := Qx.link e24
     obtain ⟨h25, H⟩ := Qr H
     obtain ⟨_, hy26, H⟩ := Qbx H; subst hy26
     obtain ⟨t11, e27, H⟩ := Qm H
     have e27 := Qx.link e27
     obtain ⟨h28, H⟩ := Qr H
     injection H with H; subst H
     try simp only [TN, simprocAttr, e1, h2, e3, e4, e5, eq_true h6, h7, h10, h18, h19, e20, @Qem, h21, h22, e24, h25, e27, h28]
     try rfl
  ·skip
   injection H with H; subst H
   try simp only [TN, simprocAttr, e1, h2, e3, e4, e5, h6]
   try rfl
 ·skip
  injection H with H; subst H
  try simp only [TN, simprocAttr, e1, h2]
  try rfl
end Go.Proofs.Ytinlbiphjgpmmaa.P
end
section
namespace Go.Proofs.Ytinlbiphjgpmmaa.P
open Go Go.RowKit Go.Proofs.Ytinlbiphjgpmmaa.V
def Qt.l0 : Nat → (List S87) → (List QQ) → Int → (List QQ) → Option ((List QQ) × Int × Int)
 | 0, _, _, _, _ => none
 | k + 1, l1, x7, x8, l0 => if x8 < (l1.length : Int) then (if 0 ≤ x8 then ((QaK.f k x7 ((QU l1 x8).f0) ((QU l1 x8).f1) ((QU l1 x8).f2) ((QU l1 x8).f3) ((QU l1 x8).f4)).bind fun bt3 => (if bt3.2 = 0 then (Qt.l0 k l1 bt3.1 (wrap64 (x8 + 1)) l0) else (some (x7, x8, bt3.2)))) else none) else (some (x7, (l1.length : Int), 0))
def Qt.f (k : Nat) (l0 : List QQ) (l1 : List S87) : Option ((List QQ) × Int × Int) := (Qw.f k l0).bind fun t1 => (if t1 = true then ((Qam.f l0).bind fun t2 => (Qt.l0 k l1 t2 0 l0)) else (some (([] : List QQ), 0, 2)))
def Qt.P0 (k : Nat) : Prop := ∀ (l1 : List S87) (x7 : List QQ) (x8 : Int) (l0 : List QQ) (r : (List QQ) × Int × Int), Qt.l0 k l1 x7 x8 l0 = some r → ∀ st, canon 2 [1, 7, 8] st = ⟨Qaw [(1, .slc 1 [] 0 5 0 l1.length), (7, .slc 2 [] 0 2 0 x7.length), (8, .i .i64 x8)], rsL [(0, some ⟨false, 2, 0, (l0.map QaA)⟩), (1, some ⟨false, 5, 0, (l1.map (e87 false))⟩), (2, some ⟨true, 2, 0, (x7.map QaA)⟩)], 3⟩ → W env Qt.c1 st (Qb 0 (Qs env Qt.c0 (Qf [.t 4, .t 5, .t 6] [false, false] ([.deep false false 2 (r.1.map QaA), .i .i64 r.2.1, .i .i64 r.2.2], [none, none]))))
theorem Qt.s0 (k : Nat) (ih : Qt.P0 k) : Qt.P0 (k + 1) := by
 intro l1 x7 x8 l0 r H st hst
 rw [Qt.l0] at H
 rw [Qax (show Qt.c1 = C.loop 2 [1, 7, 8] Qt.d1 from rfl), hst]
 unfold Qt.d1
 try simp only [TN, simprocAttr, Qt.c0]
 rcases QP H with ⟨h1, H⟩ | ⟨h1, H⟩
 ·skip
  obtain ⟨h2, H⟩ := Qr H
  obtain ⟨bt3, e3, H⟩ := Qm H
  have e3 := QaK.link e3
  try simp only [TN, simprocAttr, Qt.c0, h1, h2, e3]
  rcases QP H with ⟨h4, H⟩ | ⟨h4, H⟩
  ·skip
   try simp only [TN, simprocAttr, Qt.c0, h1, h2, e3, eq_true h4]
   refine ih _ _ _ _ _ H _ ?_
   first | (rw [Qc]; done) | (rw [Qc]; rfl) | (rw [Qc]; simp only [List.length_set, List.length_append, List.length_replicate]; rfl)
  ·skip
   injection H with H; subst H
   try simp only [TN, simprocAttr, Qt.c0, h1, h2, e3, h4]
   try rfl
 ·skip
  injection H with H; subst H
  try simp only [TN, simprocAttr, Qt.c0, h1]
  try rfl
theorem Qt.w : ∀ k, Qt.P0 k := by
 intro k
 induction k with
 | zero => exact by intro l1 x7 x8 l0 r H; cases (show (none : Option ((List QQ) × Int × Int)) = some r from H)
 | succ k ih => exact Qt.s0 k ih
theorem Qt.link {k : Nat} {l0 : List QQ} {l1 : List S87} {r : (List QQ) × Int × Int} (H : Qt.f k l0 l1 = some r) : Qat env 73 [.deep false true 2 (l0.map QaA), .deep false true 5 (l1.map (e87 false))] = some ([.deep false false 2 (r.1.map QaA), .i .i64 r.2.1, .i .i64 r.2.2], [none, none]) := by
 unfold Qt.f at H
 refine Qy (F := Qt.F) (tm := Qaw [(0, .slc 0 [] 0 2 0 l0.length), (1, .slc 1 [] 0 5 0 l1.length)]) (rs := rsL [(0, some ⟨false, 2, 0, (l0.map QaA)⟩), (1, some ⟨false, 5, 0, (l1.map (e87 false))⟩)]) (nx := 2) (ow := [false, false]) rfl (by rfl) (by simp only [SN]) (by simp only [SN]) (by decide) ?_
 show W env Qt.B _ (Qf [.t 4, .t 5, .t 6] [false, false] _)
 unfold Qt.B
 obtain ⟨t1, e1, H⟩ := Qm H
 have e1 := Qw.link e1
 try simp only [TN, simprocAttr, Qt.c0, e1]
 rcases Qa1 H with ⟨h2, H⟩ | ⟨h2, H⟩
 ·skip
  obtain ⟨t2, e3, H⟩ := Qm H
  have e3 := Qam.link e3
  try simp only [TN, simprocAttr, Qt.c0, e1, h2, e3]
  refine (Qt.w k) _ _ _ _ _ H _ ?_
  first | (rw [Qc]; done) | (rw [Qc]; rfl) | (rw [Qc]; simp only [List.length_set, List.length_append, List.length_replicate]; rfl)
 ·skip
  injection H with H; subst H
  try simp only [TN, simprocAttr, Qt.c0, e1, h2]
  try rfl
end Go.Proofs.Ytinlbiphjgpmmaa.P
end
section
namespace Go.Proofs.Ytinlbiphjgpmmaa.P
open Go Go.RowKit Go.Proofs.Ytinlbiphjgpmmaa.V
def QY.l0 : Nat → (List Int) → Int → Option Bool
 | 0, _, _ => none
 | k + 1, l0, x3 => if x3 < (l0.length : Int) then (if 0 ≤ x3 then ((Qao.f (rd l0 x3) 0 24).bind fun t1 => (if t1 = true then (QY.l0 k l0 (wrap64 (x3 + 1))) else (some false))) else none) else (some (decide ((l0.length : Int) ≤ 12)))
def QY.f (k : Nat) (l0 : List Int) : Option Bool := QY.l0 k l0 0
def QY.P0 (k : Nat) : Prop := ∀ (l0 : List Int) (x3 : Int) (r : Bool), QY.l0 k l0 x3 = some r → ∀ st, canon 1 [0, 3] st = ⟨Qaw [(0, .slc 0 [] 0 1 0 l0.length), (3, .i .i64 x3)], rsL [(0, some ⟨false, 1, 0, (l0.map eI)⟩)], 1⟩ → W env QY.c1 st (Qb 0 (Qs env QY.c0 (Qf [.t 2] [false] ([.b r], [none]))))
theorem QY.s0 (k : Nat) (ih : QY.P0 k) : QY.P0 (k + 1) := by
 intro l0 x3 r H st hst
 rw [QY.l0] at H
 rw [Qax (show QY.c1 = C.loop 1 [0, 3] QY.d1 from rfl), hst]
 unfold QY.d1
 try simp only [TN, simprocAttr, QY.c0]
 rcases QP H with ⟨h1, H⟩ | ⟨h1, H⟩
 ·skip
  obtain ⟨h2, H⟩ := Qr H
  obtain ⟨t1, e3, H⟩ := Qm H
  have e3 := Qao.link e3
  try simp only [TN, simprocAttr, QY.c0, h1, h2, e3]
  rcases Qa1 H with ⟨h4, H⟩ | ⟨h4, H⟩
  ·skip
   try simp only [TN, simprocAttr, QY.c0, h1, h2, e3, h4]
   refine ih _ _ _ H _ ?_
   first | (rw [Qc]; done) | (rw [Qc]; rfl) | (rw [Qc]; simp only [List.length_set, List.length_append, List.length_replicate]; rfl)
  ·skip
   injection H with H; subst H
   try simp only [TN, simprocAttr, QY.c0, h1, h2, e3, h4]
   try rfl
 ·skip
  injection H with H; subst H
  try simp only [TN, simprocAttr, QY.c0, h1]
  try rfl
theorem QY.w : ∀ k, QY.P0 k := by
 intro k
 induction k with
 | zero => exact by intro l0 x3 r H; cases (show (none : Option Bool) = some r from H)
 | succ k ih => exact QY.s0 k ih
theorem QY.link {k : Nat} {l0 : List Int} {r : Bool} (H : QY.f k l0 = some r) : Qat env 127 [.deep false true 1 (l0.map eI)] = some ([.b r], [none]) := by
 unfold QY.f at H
 refine Qy (F := QY.F) (tm := Qaw [(0, .slc 0 [] 0 1 0 l0.length)]) (rs := rsL [(0, some ⟨false, 1, 0, (l0.map eI)⟩)]) (nx := 1) (ow := [false]) rfl (by rfl) (by simp only [SN]) (by simp only [SN]) (by decide) ?_
 show W env QY.B _ (Qf [.t 2] [false] _)
 unfold QY.B
 try simp only [TN, simprocAttr, QY.c0]
 refine (QY.w k) _ _ _ H _ ?_
 first | (rw [Qc]; done) | (rw [Qc]; rfl) | (rw [Qc]; simp only [List.length_set, List.length_append, List.length_replicate]; rfl)
end Go.Proofs.Ytinlbiphjgpmmaa.P
end
section
namespace Go.Proofs.Ytinlbiphjgpmmaa.P
open Go Go.RowKit Go.Proofs.Ytinlbiphjgpmmaa.V
def Qbz.f (k : Nat) (a0_0 : Int) (l0_1 : List Int) (a0_2 : Int) (a0_3 : Int) (a0_4 : Int) : Option Bool := (QY.f k l0_1).bind fun t1 => (if t1 = true then (if a0_0 = 1 then ((QaD.f a0_2).bind fun t2 => (if t2 = true then (if a0_3 = 0 then (some (a0_4 == 0)) else (some false)) else (some false))) else (if a0_0 = 2 then (if a0_2 = 0 then (if a0_3 = 0 then (some (a0_4 == 0)) else (some false)) else (some false)) else (if a0_0 = 3 then ((QaD.f a0_2).bind fun t3 => (if t3 = true then ((Qao.f a0_3 0 24).bind fun t4 => (if t4 = true then ((Qao.f a0_4 0 24).bind fun t5 => (some t5)) else (some false))) else (some false))) else (some false)))) else (some false))
theorem Qbz.link {k : Nat} {a0_0 : Int} {l0_1 : List Int} {a0_2 : Int} {a0_3 : Int} {a0_4 : Int} {r : Bool} (H : Qbz.f k a0_0 l0_1 a0_2 a0_3 a0_4 = some r) : Qat env 111 [.agg [.i .i64 a0_0, .deep false true 1 (l0_1.map eI), .i .i64 a0_2, .i .i64 a0_3, .i .i64 a0_4]] = some ([.b r], [none]) := by
 unfold Qbz.f at H
 refine Qy (F := Qbz.F) (tm := Qaw [(0, .agg [.i .i64 a0_0, .slc 0 [] 0 1 0 l0_1.length, .i .i64 a0_2, .i .i64 a0_3, .i .i64 a0_4])]) (rs := rsL [(0, some ⟨false, 1, 0, (l0_1.map eI)⟩)]) (nx := 1) (ow := [false]) rfl (by rfl) (by simp only [SN]) (by simp only [SN]) (by decide) ?_
 show W env Qbz.B _ (Qf [.t 2] [false] _)
 unfold Qbz.B
 obtain ⟨t1, e1, H⟩ := Qm H
 have e1 := QY.link e1
 try simp only [TN, simprocAttr, e1]
 rcases Qa1 H with ⟨h2, H⟩ | ⟨h2, H⟩
 ·skip
  try simp only [TN, simprocAttr, e1, h2]
  rcases QP H with ⟨h3, H⟩ | ⟨h3, H⟩
  ·skip
   obtain ⟨t2, e4, H⟩ := Qm H
   have e4 := QaD.link e4
   try simp only [TN, simprocAttr, e1, h2, eq_true h3, e4]
   rcases Qa1 H with ⟨h5, H⟩ | ⟨h5, H⟩
   ·skip
    try simp only [TN, simprocAttr, e1, h2, eq_true h3, e4, h5]
    rcases QP H with ⟨h6, H⟩ | ⟨h6, H⟩
    ·skip
     injection H with H; subst H
     try simp only [TN, simprocAttr, e1, h2, eq_true h3, e4, h5, eq_true h6]
     try rfl
    ·skip
     injection H with H; subst H
     try simp only [TN, simprocAttr, e1, h2, eq_true h3, e4, h5, h6]
     try rfl
   ·skip
    injection H with H; subst H
    try simp only [TN, simprocAttr, e1, h2, eq_true h3, e4, h5]
    try rfl
  ·skip
   try simp only [TN, simprocAttr, e1, h2, h3]
   rcases QP H with ⟨h7, H⟩ | ⟨h7, H⟩
   ·skip
    try simp only [TN, simprocAttr, e1, h2, h3, eq_true h7]
    rcases QP H with ⟨h8, H⟩ | ⟨h8, H⟩
    ·skip
     try simp only [TN, simprocAttr, e1, h2, h3, eq_true h7, eq_true h8]
     rcases QP H with ⟨h9, H⟩ | ⟨h9, H⟩
     ·skip
      injection H with H; subst H
      try simp only [TN, simprocAttr, e1, h2, h3, eq_true h7, eq_true h8, eq_true h9]
      try rfl
     ·skip
      injection H with H; subst H
      try simp only [TN, simprocAttr, e1, h2, h3, eq_true h7, eq_true h8, h9]
      try rfl
    ·skip
     injection H with H; subst H
     try simp only [TN, simprocAttr, e1, h2, h3, eq_true h7, h8]
     try rfl
   ·skip
    try simp only [TN, simprocAttr, e1, h2, h3, h7]
    rcases QP H with ⟨h10, H⟩ | ⟨h10, H⟩
    ·skip
     obtain ⟨t3, e11, H⟩ := Qm H
     have e11 := QaD.link e11
     try simp only [TN, simprocAttr, e1, h2, h3, h7, eq_true h10, e11]
     rcases Qa1 H with ⟨h12, H⟩ | ⟨h12, H⟩
     ·skip
      obtain ⟨t4, e13, H⟩ := Qm H
      have e13 := Qao.link e13
      try simp only [TN, simprocAttr, e1, h2, h3, h7, eq_true h10, e11, h12, e13]
      rcases Qa1 H with ⟨h14, H⟩ | ⟨h14, H⟩
      ·skip
       obtain ⟨t5, e15, H⟩ := Qm H
       have e15 := Qao.link e15
       injection H with H; subst H
       try simp only [TN, simprocAttr, e1, h2, h3, h7, eq_true h10, e11, h12, e13, h14, e15]
       try rfl
      ·skip
       injection H with H; subst H
       try simp only [TN, simprocAttr, e1, h2, h3, h7, eq_true h10, e11, h12, e13, h14]
       try rfl
     ·skip
      injection H with H; subst H
      try simp only [TN, simprocAttr, e1, h2, h3, h7, eq_true h10, e11, h12]
      try rfl
    ·skip
     injection H with H; subst H
     try simp only [TN, simprocAttr, e1, h2, h3, h7, h10]
     try rfl
 ·skip
  injection H with H; subst H
  try simp only [TN, simprocAttr, e1, h2]
  try rfl
end Go.Proofs.Ytinlbiphjgpmmaa.P
end
section
namespace Go.Proofs.Ytinlbiphjgpmmaa.P
open Go Go.RowKit Go.Proofs.Ytinlbiphjgpmmaa.V
def QI.l0 : Nat → (List S87) → Int → Option Bool
 | 0, _, _ => none
 | k + 1, l0, x3 => if x3 < (l0.length : Int) then (if 0 ≤ x3 then ((Qbz.f k ((QU l0 x3).f0) ((QU l0 x3).f1) ((QU l0 x3).f2) ((QU l0 x3).f3) ((QU l0 x3).f4)).bind fun t1 => (if t1 = true then (QI.l0 k l0 (wrap64 (x3 + 1))) else (some false))) else none) else (some (decide ((l0.length : Int) ≤ 60)))
def QI.f (k : Nat) (l0 : List S87) : Option Bool := QI.l0 k l0 0
def QI.P0 (k : Nat) : Prop := ∀ (l0 : List S87) (x3 : Int) (r : Bool), QI.l0 k l0 x3 = some r → ∀ st, canon 1 [0, 3] st = ⟨Qaw [(0, .slc 0 [] 0 5 0 l0.length), (3, .i .i64 x3)], rsL [(0, some ⟨false, 5, 0, (l0.map (e87 false))⟩)], 1⟩ → W env QI.c1 st (Qb 0 (Qs env QI.c0 (Qf [.t 2] [false] ([.b r], [none]))))
theorem QI.s0 (k : Nat) (ih : QI.P0 k) : QI.P0 (k + 1) := by
 intro l0 x3 r H st hst
 rw [QI.l0] at H
 rw [Qax (show QI.c1 = C.loop 1 [0, 3] QI.d1 from rfl), hst]
 unfold QI.d1
 try simp only [TN, simprocAttr, QI.c0]
 rcases QP H with ⟨h1, H⟩ | ⟨h1, H⟩
 ·skip
  obtain ⟨h2, H⟩ := Qr H
  obtain ⟨t1, e3, H⟩ := Qm H
  have e3 := Qbz.link e3
  try simp only [TN, simprocAttr, QI.c0, h1, h2, e3]
  rcases Qa1 H with ⟨h4, H⟩ | ⟨h4, H⟩
  ·skip
   try simp only [TN, simprocAttr, QI.c0, h1, h2, e3, h4]
   refine ih _ _ _ H _ ?_
   first | (rw [Qc]; done) | (rw [Qc]; rfl) | (rw [Qc]; simp only [List.length_set, List.length_append, List.length_replicate]; rfl)
  ·skip
   injection H with H; subst H
   try simp only [TN, simprocAttr, QI.c0, h1, h2, e3, h4]
   try rfl
 ·skip
  injection H with H; subst H
  try simp only [TN, simprocAttr, QI.c0, h1]
  try rfl
theorem QI.w : ∀ k, QI.P0 k := by
 intro k
 induction k with
 | zero => exact by intro l0 x3 r H; cases (show (none : Option Bool) = some r from H)
 | succ k ih => exact QI.s0 k ih
theorem QI.link {k : Nat} {l0 : List S87} {r : Bool} (H : QI.f k l0 = some r) : Qat env 87 [.deep false true 5 (l0.map (e87 false))] = some ([.b r], [none]) := by
 unfold QI.f at H
 refine Qy (F := QI.F) (tm := Qaw [(0, .slc 0 [] 0 5 0 l0.length)]) (rs := rsL [(0, some ⟨false, 5, 0, (l0.map (e87 false))⟩)]) (nx := 1) (ow := [false]) rfl (by rfl) (by simp only [SN]) (by simp only [SN]) (by decide) ?_
 show W env QI.B _ (Qf [.t 2] [false] _)
 unfold QI.B
 try simp only [TN, simprocAttr, QI.c0]
 refine (QI.w k) _ _ _ H _ ?_
 first | (rw [Qc]; done) | (rw [Qc]; rfl) | (rw [Qc]; simp only [List.length_set, List.length_append, List.length_replicate]; rfl)
end Go.Proofs.Ytinlbiphjgpmmaa.P
end
section
namespace Go.Proofs.Ytinlbiphjgpmmaa.P
open Go Go.RowKit Go.Proofs.Ytinlbiphjgpmmaa.V
def QA.l0 : Nat → (List QQ) → (List (List S87)) → (List QQ) → Int → Option Bool
 | 0, _, _, _, _ => none
 | k + 1, l0_0, l0_1, x3, x4 => if x4 < (l0_1.length : Int) then (if 0 ≤ x4 then ((Qt.f k x3 (rdL l0_1 x4)).bind fun bt3 => (if bt3.2.2 = 0 then ((QI.f k (rdL l0_1 x4)).bind fun t4 => (if t4 = true then (QA.l0 k l0_0 l0_1 bt3.1 (wrap64 (x4 + 1))) else (some false))) else (some false))) else none) else (some true)
def QA.f (k : Nat) (l0_0 : List QQ) (l0_1 : List (List S87)) : Option Bool := (Qw.f k l0_0).bind fun t1 => (if t1 = true then (if (l0_1.length : Int) > 6 then (some false) else ((Qam.f l0_0).bind fun t2 => (QA.l0 k l0_0 l0_1 t2 0))) else (some false))
def QA.P0 (k : Nat) : Prop := ∀ (l0_0 : List QQ) (l0_1 : List (List S87)) (x3 : List QQ) (x4 : Int) (r : Bool), QA.l0 k l0_0 l0_1 x3 x4 = some r → ∀ st, canon 2 [1, 3, 4] st = ⟨Qaw [(1, .bx [.slc 0 [] 0 2 0 l0_0.length, .slc 1 [] 0 1 0 l0_1.length] 0), (3, .slc 2 [] 0 2 0 x3.length), (4, .i .i64 x4)], rsL [(0, some ⟨false, 2, 0, (l0_0.map QaA)⟩), (1, some ⟨false, 1, 0, (l0_1.map (eL 5 false (e87 false)))⟩), (2, some ⟨true, 2, 0, (x3.map QaA)⟩)], 3⟩ → W env QA.c1 st (Qb 0 (Qs env QA.c0 (Qf [.t 2] [false, false] ([.b r], [none, none]))))
theorem QA.s0 (k : Nat) (ih : QA.P0 k) : QA.P0 (k + 1) := by
 intro l0_0 l0_1 x3 x4 r H st hst
 rw [QA.l0] at H
 rw [Qax (show QA.c1 = C.loop 2 [1, 3, 4] QA.d1 from rfl), hst]
 unfold QA.d1
 try simp only [TN, simprocAttr, QA.c0]
 rcases QP H with ⟨h1, H⟩ | ⟨h1, H⟩
 ·skip
  obtain ⟨h2, H⟩ := Qr H
  obtain ⟨bt3, e3, H⟩ := Qm H
  have e3 := Qt.link e3
  try simp only [TN, simprocAttr, QA.c0, h1, h2, e3]
  rcases QP H with ⟨h4, H⟩ | ⟨h4, H⟩
  ·skip
   obtain ⟨t4, e5, H⟩ := Qm H
   have e5 := QI.link e5
   try simp only [TN, simprocAttr, QA.c0, h1, h2, e3, eq_true h4, e5]
   rcases Qa1 H with ⟨h6, H⟩ | ⟨h6, H⟩
   ·skip
    try simp only [TN, simprocAttr, QA.c0, h1, h2, e3, eq_true h4, e5, h6]
    refine ih _ _ _ _ _ H _ ?_
    first | (rw [Qc]; done) | (rw [Qc]; rfl) | (rw [Qc]; simp only [List.length_set, List.length_append, List.length_replicate]; rfl)
   ·skip
    injection H with H; subst H
    try simp only [TN, simprocAttr, QA.c0, h1, h2, e3, eq_true h4, e5, h6]
    try rfl
  ·skip
   injection H with H; subst H
   try simp only [TN, simprocAttr, QA.c0, h1, h2, e3, h4]
   try rfl
 ·skip
  injection H with H; subst H
  try simp only [TN, simprocAttr, QA.c0, h1]
  try rfl
theorem QA.w : ∀ k, QA.P0 k := by
 intro k
 induction k with
 | zero => exact by intro l0_0 l0_1 x3 x4 r H; cases (show (none : Option Bool) = some r from H)
 | succ k ih => exact QA.s0 k ih
theorem QA.link {k : Nat} {l0_0 : List QQ} {l0_1 : List (List S87)} {r : Bool} (H : QA.f k l0_0 l0_1 = some r) : Qat env 50 [.agg [.deep false true 2 (l0_0.map QaA), .deep false true 1 (l0_1.map (eL 5 false (e87 false)))]] = some ([.b r], [none, none]) := by
 unfold QA.f at H
 refine Qy (F := QA.F) (tm := Qaw [(0, .agg [.slc 0 [] 0 2 0 l0_0.length, .slc 1 [] 0 1 0 l0_1.length])]) (rs := rsL [(0, some ⟨false, 2, 0, (l0_0.map QaA)⟩), (1, some ⟨false, 1, 0, (l0_1.map (eL 5 false (e87 false)))⟩)]) (nx := 2) (ow := [false, false]) rfl (by rfl) (by simp only [SN]) (by simp only [SN]) (by decide) ?_
 show W env QA.B _ (Qf [.t 2] [false, false] _)
 unfold QA.B
 obtain ⟨t1, e1, H⟩ := Qm H
 have e1 := Qw.link e1
 try simp only [TN, simprocAttr, QA.c0, e1]
 rcases Qa1 H with ⟨h2, H⟩ | ⟨h2, H⟩
 ·skip
  try simp only [TN, simprocAttr, QA.c0, e1, h2]
  rcases QP H with ⟨h3, H⟩ | ⟨h3, H⟩
  ·skip
   injection H with H; subst H
   try simp only [TN, simprocAttr, QA.c0, e1, h2, h3]
   try rfl
  ·skip
   obtain ⟨t2, e4, H⟩ := Qm H
   have e4 := Qam.link e4
   try simp only [TN, simprocAttr, QA.c0, e1, h2, h3, e4]
   refine (QA.w k) _ _ _ _ _ H _ ?_
   first | (rw [Qc]; done) | (rw [Qc]; rfl) | (rw [Qc]; simp only [List.length_set, List.length_append, List.length_replicate]; rfl)
 ·skip
  injection H with H; subst H
  try simp only [TN, simprocAttr, QA.c0, e1, h2]
  try rfl
end Go.Proofs.Ytinlbiphjgpmmaa.P
end
section
namespace Go.Proofs.Ytinlbiphjgpmmaa.P
open Go Go.RowKit Go.Proofs.Ytinlbiphjgpmmaa.V
def QaU.f (k : Nat) (l0_0 : List QQ) (l0_1 : List (List S87)) (l1 : List S87) : Option ((List QQ) × (List (List S87)) × Bool) := (QK.f k l0_0 l0_1).bind fun bt1 => ((QX.f k l1).bind fun t2 => (if bt1.2.length < 5864062014805 then ((some (bt1.2 ++ ([t2]) : List (List S87))).bind fun y0 => ((QA.f k bt1.1 y0).bind fun t3 => (if t3 = true then (some (bt1.1, y0, true)) else (some (bt1.1, bt1.2, false))))) else none))
theorem QaU.link {k : Nat} {l0_0 : List QQ} {l0_1 : List (List S87)} {l1 : List S87} {r : (List QQ) × (List (List S87)) × Bool} (H : QaU.f k l0_0 l0_1 l1 = some r) : Qat env 21 [.agg [.deep false true 2 (l0_0.map QaA), .deep false true 1 (l0_1.map (eL 5 false (e87 false)))], .deep false true 5 (l1.map (e87 false))] = some ([.agg [.deep false false 2 (r.1.map QaA), .deep false false 1 (r.2.1.map (eL 5 false (e87 false)))], .b r.2.2], [none, none, none]) := by
 unfold QaU.f at H
 refine Qy (F := QaU.F) (tm := Qaw [(0, .agg [.slc 0 [] 0 2 0 l0_0.length, .slc 1 [] 0 1 0 l0_1.length]), (1, .slc 2 [] 0 5 0 l1.length)]) (rs := rsL [(0, some ⟨false, 2, 0, (l0_0.map QaA)⟩), (1, some ⟨false, 1, 0, (l0_1.map (eL 5 false (e87 false)))⟩), (2, some ⟨false, 5, 0, (l1.map (e87 false))⟩)]) (nx := 3) (ow := [false, false, false]) rfl (by rfl) (by simp only [SN]) (by simp only [SN]) (by decide) ?_
 show W env QaU.B _ (Qf [.cell 4 (some 2), .t 5] [false, false, false] _)
 unfold QaU.B
 obtain ⟨bt1, e1, H⟩ := Qm H
 have e1 := QK.link e1
 obtain ⟨t2, e2, H⟩ := Qm H
 have e2 := QX.link e2
 obtain ⟨h3, H⟩ := Qr H
 have h4 : (bt1.2.length + 1) * 24 ≤ 140737488355328 := by omega
 obtain ⟨_, hy5, H⟩ := Qbx H; subst hy5
 obtain ⟨t3, e6, H⟩ := Qm H
 have e6 := QA.link e6
 try simp only [TN, simprocAttr, e1, e2, h3, h4, e6]
 rcases Qa1 H with ⟨h7, H⟩ | ⟨h7, H⟩
 ·skip
  injection H with H; subst H
  try simp only [TN, simprocAttr, e1, e2, h3, h4, e6, h7]
  try rfl
 ·skip
  injection H with H; subst H
  try simp only [TN, simprocAttr, e1, e2, h3, h4, e6, h7]
  try rfl
end Go.Proofs.Ytinlbiphjgpmmaa.P
end
section
namespace Go.Proofs.Ytinlbiphjgpmmaa.P
open Go Go.RowKit Go.Proofs.Ytinlbiphjgpmmaa.V
def QaT.f (k : Nat) (l0 : List QQ) (a1_0 : Int) (l1_1 : List Int) (a1_2 : Int) (a1_3 : Int) (a1_4 : Int) : Option (Int × (List Int) × Int × Int × Int) := (QV.f k l0 l1_1).bind fun t1 => (if l1_1.length * 8 ≤ 140737488355328 then (if a1_0 = 1 then (if 0 ≤ t1 then (if t1 < (l0.length : Int) then (some (1, l1_1, (Qap l0 t1).f0, 0, 0)) else none) else none) else (if a1_0 = 2 then (if wrap64 ((l1_1.length : Int) - 1) ≤ (l1_1.length : Int) then (if 0 ≤ wrap64 ((l1_1.length : Int) - 1) then ((some (l1_1.take (wrap64 ((l1_1.length : Int) - 1) : Int).toNat : List Int)).bind fun y0 => (if 0 ≤ t1 then (if t1 < (l0.length : Int) then (if wrap64 ((l1_1.length : Int) - 1) < (l1_1.length : Int) then ((QN.f k l0 t1).bind fun t2 => (some (3, y0, (Qap l0 t1).f0, rd l1_1 (wrap64 ((l1_1.length : Int) - 1)), (t2.length : Int)))) else none) else none) else none)) else none) else none) else (if l1_1.length < 17592186044416 then (some (2, (l1_1 ++ ([a1_3])), 0, 0, 0)) else none))) else none)
theorem QaT.link {k : Nat} {l0 : List QQ} {a1_0 : Int} {l1_1 : List Int} {a1_2 : Int} {a1_3 : Int} {a1_4 : Int} {r : Int × (List Int) × Int × Int × Int} (H : QaT.f k l0 a1_0 l1_1 a1_2 a1_3 a1_4 = some r) : Qat env 98 [.deep false true 2 (l0.map QaA), .agg [.i .i64 a1_0, .deep false true 1 (l1_1.map eI), .i .i64 a1_2, .i .i64 a1_3, .i .i64 a1_4]] = some ([.agg [.i .i64 r.1, .deep false false 1 (r.2.1.map eI), .i .i64 r.2.2.1, .i .i64 r.2.2.2.1, .i .i64 r.2.2.2.2]], [none, none]) := by
 unfold QaT.f at H
 refine Qy (F := QaT.F) (tm := Qaw [(0, .slc 0 [] 0 2 0 l0.length), (1, .agg [.i .i64 a1_0, .slc 1 [] 0 1 0 l1_1.length, .i .i64 a1_2, .i .i64 a1_3, .i .i64 a1_4])]) (rs := rsL [(0, some ⟨false, 2, 0, (l0.map QaA)⟩), (1, some ⟨false, 1, 0, (l1_1.map eI)⟩)]) (nx := 2) (ow := [false, false]) rfl (by rfl) (by simp only [SN]) (by simp only [SN]) (by decide) ?_
 show W env QaT.B _ (Qf [.cell 4 (some 5)] [false, false] _)
 unfold QaT.B
 obtain ⟨t1, e1, H⟩ := Qm H
 have e1 := QV.link e1
 obtain ⟨h2, H⟩ := Qr H
 try simp only [TN, simprocAttr, e1, h2]
 rcases QP H with ⟨h3, H⟩ | ⟨h3, H⟩
 ·skip
  obtain ⟨h4, H⟩ := Qr H
  obtain ⟨h5, H⟩ := Qr H
  injection H with H; subst H
  try simp only [TN, simprocAttr, e1, h2, eq_true h3, h4, h5]
  try rfl
 ·skip
  try simp only [TN, simprocAttr, e1, h2, h3]
  rcases QP H with ⟨h6, H⟩ | ⟨h6, H⟩
  ·skip
   obtain ⟨h7, H⟩ := Qr H
   obtain ⟨h8, H⟩ := Qr H
   obtain ⟨y0, hy0, H⟩ := Qbx H
   have h9 : (wrap64 ((l1_1.length : Int) - 1) : Int).toNat = List.length y0 := by rw [← hy0]; simp only [List.length_drop, List.length_take] <;> omega
   have cw9 : (List.drop (0) l1_1).take (List.length y0) = y0 := by rw [← h9, List.drop_zero]; exact hy0
   have g9 : ∀ {j : Int}, 0 ≤ j → j < (List.length y0 : Int) → (l1_1.map eI)[0 + j.toNat]? = some (eI (rd y0 j)) := fun h1 h2 => Ql6 cw9 h1 h2
   have w9 := QeU (e := eI) cw9
   have z9 : 0 ≤ wrap64 ((l1_1.length : Int) - 1) → wrap64 ((l1_1.length : Int) - 1) < (List.length l1_1 : Int) → (l1_1.map eI)[0 + List.length y0]? = some (eI (rd l1_1 (wrap64 ((l1_1.length : Int) - 1)))) := fun h1 h2 => by rw [← h9]; exact QbJ h1 h2
   obtain ⟨h10, H⟩ := Qr H
   obtain ⟨h11, H⟩ := Qr H
   obtain ⟨h12, H⟩ := Qr H
   obtain ⟨t2, e13, H⟩ := Qm H
   have e13 := QN.link e13
   injection H with H; subst H
   try simp only [TN, simprocAttr, e1, h2, h3, eq_true h6, h7, h8, h9, g9, w9, z9, h10, h11, h12, e13]
   try rfl
  ·skip
   obtain ⟨h14, H⟩ := Qr H
   have h15 : (l1_1.length + 1) * 8 ≤ 140737488355328 := by omega
   injection H with H; subst H
   try simp only [TN, simprocAttr, e1, h2, h3, h6, h14, h15]
   try rfl
end Go.Proofs.Ytinlbiphjgpmmaa.P
end
section
namespace Go.Proofs.Ytinlbiphjgpmmaa.P
open Go Go.RowKit Go.Proofs.Ytinlbiphjgpmmaa.V
def Q2.l0 : Nat → (List S87) → (List S87) → (List QQ) → Int → (List QQ) → Option ((List S87) × Bool)
 | 0, _, _, _, _, _ => none
 | k + 1, l1, x6, x7, x8, l0 => if x8 < (l1.length : Int) then (if 0 ≤ x8 then ((QaK.f k x7 ((QU l1 x8).f0) ((QU l1 x8).f1) ((QU l1 x8).f2) ((QU l1 x8).f3) ((QU l1 x8).f4)).bind fun bt3 => (if bt3.2 = 0 then ((QaT.f k x7 ((QU l1 x8).f0) ((QU l1 x8).f1) ((QU l1 x8).f2) ((QU l1 x8).f3) ((QU l1 x8).f4)).bind fun bt4 => (if (1 + x6.length) * 56 ≤ 140737488355328 then (Q2.l0 k l1 (([(⟨bt4.1, bt4.2.1, bt4.2.2.1, bt4.2.2.2.1, bt4.2.2.2.2⟩ : S87)]) ++ x6) bt3.1 (wrap64 (x8 + 1)) l0) else none)) else (some (([] : List S87), false)))) else none) else (some (x6, true))
def Q2.f (k : Nat) (l0 : List QQ) (l1 : List S87) : Option ((List S87) × Bool) := (Qw.f k l0).bind fun t1 => (if t1 = true then ((Qam.f l0).bind fun t2 => (Q2.l0 k l1 ([] : List S87) t2 0 l0)) else (some (([] : List S87), false)))
def Q2.P0 (k : Nat) : Prop := ∀ (l1 : List S87) (x6 : List S87) (x7 : List QQ) (x8 : Int) (l0 : List QQ) (r : (List S87) × Bool), Q2.l0 k l1 x6 x7 x8 l0 = some r → ∀ st, canon 2 [1, 6, 7, 8] st = ⟨Qaw [(1, .slc 1 [] 0 5 0 l1.length), (6, .slc 2 [] 0 5 0 x6.length), (7, .slc 3 [] 0 2 0 x7.length), (8, .i .i64 x8)], rsL [(0, some ⟨false, 2, 0, (l0.map QaA)⟩), (1, some ⟨false, 5, 0, (l1.map (e87 false))⟩), (2, some ⟨true, 5, 0, (x6.map (e87 false))⟩), (3, some ⟨true, 2, 0, (x7.map QaA)⟩)], 4⟩ → W env Q2.c1 st (Qb 0 (Qs env Q2.c0 (Qf [.t 4, .t 5] [false, false] ([.deep false false 5 (r.1.map (e87 false)), .b r.2], [none, none]))))
theorem Q2.s0 (k : Nat) (ih : Q2.P0 k) : Q2.P0 (k + 1) := by
 intro l1 x6 x7 x8 l0 r H st hst
 rw [Q2.l0] at H
 rw [Qax (show Q2.c1 = C.loop 2 [1, 6, 7, 8] Q2.d1 from rfl), hst]
 unfold Q2.d1
 try simp only [TN, simprocAttr, Q2.c0]
 rcases QP H with ⟨h1, H⟩ | ⟨h1, H⟩
 ·skip
  obtain ⟨h2, H⟩ := Qr H
  obtain ⟨bt3, e3, H⟩ := Qm H
  have e3 := QaK.link e3
  try simp only [TN, simprocAttr, Q2.c0, h1, h2, e3]
  rcases QP H with ⟨h4, H⟩ | ⟨h4, H⟩
  ·skip
   obtain ⟨bt4, e5, H⟩ := Qm H
   have e5 := QaT.link e5
   obtain ⟨h6, H⟩ := Qr H
   try simp only [TN, simprocAttr, Q2.c0, h1, h2, e3, eq_true h4, e5, @Qdk, h6]
   refine ih _ _ _ _ _ _ H _ ?_
   first | (rw [Qc]; done) | (rw [Qc]; rfl) | (rw [Qc]; simp only [List.length_set, List.length_append, List.length_replicate]; rfl)
  ·skip
   injection H with H; subst H
   try simp only [TN, simprocAttr, Q2.c0, h1, h2, e3, h4]
   try rfl
 ·skip
  injection H with H; subst H
  try simp only [TN, simprocAttr, Q2.c0, h1]
  try rfl
theorem Q2.w : ∀ k, Q2.P0 k := by
 intro k
 induction k with
 | zero => exact by intro l1 x6 x7 x8 l0 r H; cases (show (none : Option ((List S87) × Bool)) = some r from H)
 | succ k ih => exact Q2.s0 k ih
theorem Q2.link {k : Nat} {l0 : List QQ} {l1 : List S87} {r : (List S87) × Bool} (H : Q2.f k l0 l1 = some r) : Qat env 65 [.deep false true 2 (l0.map QaA), .deep false true 5 (l1.map (e87 false))] = some ([.deep false false 5 (r.1.map (e87 false)), .b r.2], [none, none]) := by
 unfold Q2.f at H
 refine Qy (F := Q2.F) (tm := Qaw [(0, .slc 0 [] 0 2 0 l0.length), (1, .slc 1 [] 0 5 0 l1.length)]) (rs := rsL [(0, some ⟨false, 2, 0, (l0.map QaA)⟩), (1, some ⟨false, 5, 0, (l1.map (e87 false))⟩)]) (nx := 2) (ow := [false, false]) rfl (by rfl) (by simp only [SN]) (by simp only [SN]) (by decide) ?_
 show W env Q2.B _ (Qf [.t 4, .t 5] [false, false] _)
 unfold Q2.B
 obtain ⟨t1, e1, H⟩ := Qm H
 have e1 := Qw.link e1
 try simp only [TN, simprocAttr, Q2.c0, e1]
 rcases Qa1 H with ⟨h2, H⟩ | ⟨h2, H⟩
 ·skip
  obtain ⟨t2, e3, H⟩ := Qm H
  have e3 := Qam.link e3
  try simp only [TN, simprocAttr, Q2.c0, e1, h2, e3]
  refine (Q2.w k) _ _ _ _ _ _ H _ ?_
  first | (rw [Qc]; done) | (rw [Qc]; rfl) | (rw [Qc]; simp only [List.length_set, List.length_append, List.length_replicate]; rfl)
 ·skip
  injection H with H; subst H
  try simp only [TN, simprocAttr, Q2.c0, e1, h2]
  try rfl
end Go.Proofs.Ytinlbiphjgpmmaa.P
end
section
namespace Go.Proofs.Ytinlbiphjgpmmaa.P
open Go Go.RowKit Go.Proofs.Ytinlbiphjgpmmaa.V
def Q3.l0 : Nat → Int → (List QQ) → (List (List S87)) → (List QQ) → Int → Option (List QQ)
 | 0, _, _, _, _, _ => none
 | k + 1, a1, l0_0, l0_1, x5, x6 => if x6 < a1 then (if 0 ≤ x6 then (if x6 < (l0_1.length : Int) then ((Qt.f k x5 (rdL l0_1 x6)).bind fun bt4 => (Q3.l0 k a1 l0_0 l0_1 bt4.1 (wrap64 (x6 + 1)))) else none) else none) else (some x5)
def Q3.f (k : Nat) (l0_0 : List QQ) (l0_1 : List (List S87)) (a1 : Int) : Option (List QQ) := (QA.f k l0_0 l0_1).bind fun t1 => (if t1 = true then ((Qao.f a1 0 (l0_1.length : Int)).bind fun t2 => (if t2 = true then ((Qam.f l0_0).bind fun t3 => (Q3.l0 k a1 l0_0 l0_1 t3 0)) else (some ([] : List QQ)))) else (some ([] : List QQ)))
def Q3.P0 (k : Nat) : Prop := ∀ (a1 : Int) (l0_0 : List QQ) (l0_1 : List (List S87)) (x5 : List QQ) (x6 : Int) (r : (List QQ)), Q3.l0 k a1 l0_0 l0_1 x5 x6 = some r → ∀ st, canon 2 [1, 2, 5, 6] st = ⟨Qaw [(1, .i .i64 a1), (2, .bx [.slc 0 [] 0 2 0 l0_0.length, .slc 1 [] 0 1 0 l0_1.length] 0), (5, .slc 2 [] 0 2 0 x5.length), (6, .i .i64 x6)], rsL [(0, some ⟨false, 2, 0, (l0_0.map QaA)⟩), (1, some ⟨false, 1, 0, (l0_1.map (eL 5 false (e87 false)))⟩), (2, some ⟨true, 2, 0, (x5.map QaA)⟩)], 3⟩ → W env Q3.c1 st (Qb 0 (Qs env Q3.c0 (Qf [.t 4] [false, false] ([.deep false false 2 (r.map QaA)], [none, none]))))
theorem Q3.s0 (k : Nat) (ih : Q3.P0 k) : Q3.P0 (k + 1) := by
 intro a1 l0_0 l0_1 x5 x6 r H st hst
 rw [Q3.l0] at H
 rw [Qax (show Q3.c1 = C.loop 2 [1, 2, 5, 6] Q3.d1 from rfl), hst]
 unfold Q3.d1
 try simp only [TN, simprocAttr, Q3.c0]
 rcases QP H with ⟨h1, H⟩ | ⟨h1, H⟩
 ·skip
  obtain ⟨h2, H⟩ := Qr H
  obtain ⟨h3, H⟩ := Qr H
  obtain ⟨bt4, e4, H⟩ := Qm H
  have e4 := Qt.link e4
  try simp only [TN, simprocAttr, Q3.c0, h1, h2, h3, e4]
  refine ih _ _ _ _ _ _ H _ ?_
  first | (rw [Qc]; done) | (rw [Qc]; rfl) | (rw [Qc]; simp only [List.length_set, List.length_append, List.length_replicate]; rfl)
 ·skip
  injection H with H; subst H
  try simp only [TN, simprocAttr, Q3.c0, h1]
  try rfl
theorem Q3.w : ∀ k, Q3.P0 k := by
 intro k
 induction k with
 | zero => exact by intro a1 l0_0 l0_1 x5 x6 r H; cases (show (none : Option (List QQ)) = some r from H)
 | succ k ih => exact Q3.s0 k ih
theorem Q3.link {k : Nat} {l0_0 : List QQ} {l0_1 : List (List S87)} {a1 : Int} {r : (List QQ)} (H : Q3.f k l0_0 l0_1 a1 = some r) : Qat env 66 [.agg [.deep false true 2 (l0_0.map QaA), .deep false true 1 (l0_1.map (eL 5 false (e87 false)))], .i .i64 a1] = some ([.deep false false 2 (r.map QaA)], [none, none]) := by
 unfold Q3.f at H
 refine Qy (F := Q3.F) (tm := Qaw [(0, .agg [.slc 0 [] 0 2 0 l0_0.length, .slc 1 [] 0 1 0 l0_1.length]), (1, .i .i64 a1)]) (rs := rsL [(0, some ⟨false, 2, 0, (l0_0.map QaA)⟩), (1, some ⟨false, 1, 0, (l0_1.map (eL 5 false (e87 false)))⟩)]) (nx := 2) (ow := [false, false]) rfl (by rfl) (by simp only [SN]) (by simp only [SN]) (by decide) ?_
 show W env Q3.B _ (Qf [.t 4] [false, false] _)
 unfold Q3.B
 obtain ⟨t1, e1, H⟩ := Qm H
 have e1 := QA.link e1
 try simp only [TN, simprocAttr, Q3.c0, e1]
 rcases Qa1 H with ⟨h2, H⟩ | ⟨h2, H⟩
 ·skip
  obtain ⟨t2, e3, H⟩ := Qm H
  have e3 := Qao.link e3
  try simp only [TN, simprocAttr, Q3.c0, e1, h2, e3]
  rcases Qa1 H with ⟨h4, H⟩ | ⟨h4, H⟩
  ·skip
   obtain ⟨t3, e5, H⟩ := Qm H
   have e5 := Qam.link e5
   try simp only [TN, simprocAttr, Q3.c0, e1, h2, e3, h4, e5]
   refine (Q3.w k) _ _ _ _ _ _ H _ ?_
   first | (rw [Qc]; done) | (rw [Qc]; rfl) | (rw [Qc]; simp only [List.length_set, List.length_append, List.length_replicate]; rfl)
  ·skip
   injection H with H; subst H
   try simp only [TN, simprocAttr, Q3.c0, e1, h2, e3, h4]
   try rfl
 ·skip
  injection H with H; subst H
  try simp only [TN, simprocAttr, Q3.c0, e1, h2]
  try rfl
end Go.Proofs.Ytinlbiphjgpmmaa.P
end
