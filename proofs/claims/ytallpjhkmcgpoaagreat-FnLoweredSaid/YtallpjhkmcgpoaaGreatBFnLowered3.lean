/- FnLowered: LC L5 L126 L107 L104 L123 L103 L85 L87 L45 L58 L105 L124 L125 L106 L127 L108 L109 L73 L43 L86 L44 L8 L110 L74 L29 L30 L6 L88 L89 L90 L46 L75 L76 L31 L32 L33 L41 L40 L51 L78 L91 L92 L47 L39 L111 L112 L77 L79 L80 L34 L81 L8200095 L8200055 L35. -/
import Derived.Test.YtallpjhkmcgpoaaGreatBFnLowered2
import Derived.Test.YtallpjhkmcgpoaaGreatProg
import Derived.KernelRfl
set_option linter.all false
set_option maxRecDepth 100000
set_option maxHeartbeats 8000000
section
namespace Go.Proofs.YtallpjhkmcgpoaaGreat.P
open Go Go.RowKit Go.Proofs.YtallpjhkmcgpoaaGreat.V
def Qb5.B:C:=(.seq (.kp [0] (.ops [o 2 (.mv (.k (.b false)))])) (.seq (.kp [2] (.ops [o 3 (.mv (.t 0)),o 4 (.len false (.t 3)),o 5 (.bin .gtr 0 (.t 4) (.k (.i .i64 1048576))),o 2 (.mv (.t 5))])) C.ret))
def Qb5.F:V.Fn:=⟨1,Qb5.B,[.t 2]⟩
def Q5.c0:C:=(.seq (.kp [2] (.ops [o 28 (.mv (.t 0)),o 29 (.mv (.t 3)),o 30 (.build [.nl 1, .i .i64 0, .i .i64 0] [(0,1, .t 28),(2,1, .t 29)]),o 31 (.box 3 (.t 30)),o 2 (.mv (.t 31))])) C.ret)
def Q5.d1:C:=(.seq (.seq (.kp [0,3,4,15] (.ops [o 8 (.mv (.t 4)),o 9 (.mv (.t 0)),o 10 (.len false (.t 9)),o 11 (.bin .lss 0 (.t 8) (.t 10)),o 12 (.mv (.t 11)),og 13 12 true (.mv (.t 4)),og 14 12 true (.bin .lss 0 (.t 13) (.k (.i .i64 4000))),o 15 (.pick (.t 12) (.t 14) (.k (.b false)))])) (.cond (.t 15) C.skip (.exit 0))) (.seq (.blk 1 (.kp [0,3,4] (.ops [o 18 (.mv (.t 3)),o 19 (.bin .mul 0 (.t 18) (.k (.i .i64 131))),o 20 (.mv (.t 0)),o 21 (.mv (.t 4)),o 22 (.iaddr 1 (.t 20) (.t 21)),o 23 (.load none (.t 22)),o 24 (.conv .i64 (.t 23)),o 25 (.bin .add 0 (.t 19) (.t 24)),o 26 (.bin .add 0 (.t 25) (.k (.i .i64 7))),o 27 (.bin .and 0 (.t 26) (.k (.i .i64 1073741823))),o 3 (.mv (.t 27))]))) (.kp [0,3,4] (.ops [o 16 (.mv (.t 4)),o 17 (.bin .add 0 (.t 16) (.k (.i .i64 1))),o 4 (.mv (.t 17))]))))
def Q5.c1:C := .loop 1 [0,3,4] Q5.d1
def Q5.B:C:=(.seq (.kp [0] (.ops [o 2 (.mv (.k (.undef)))])) (.seq (.kp [0,3] (.ops [o 5 (.mv (.t 0)),o 6 (.len false (.t 5)),o 7 (.bin .add 0 (.k (.i .i64 10101)) (.t 6)),o 3 (.mv (.t 7))])) (.seq (.seq (.kp [0,3,4] (.ops [o 4 (.mv (.k (.i .i64 0)))])) (.blk 0 Q5.c1)) Q5.c0)))
def Q5.F:V.Fn:=⟨1,Q5.B,[.t 2]⟩
def QaH.B:C:=(.seq (.kp [0] (.ops [o 2 (.mv (.k (.i .i64 0)))])) (.seq (.kp [0] (.ops [o 4 (.mv (.t 0)),o 5 (.mv (.t 0)),o 6 (.nilc (.t 5)),o 7 (.faddr 2 (.t 6)),o 8 (.load none (.t 7)),o 9 (.bin .mul 0 (.t 8) (.k (.i .i64 6364136223846793005))),o 10 (.bin .add 0 (.t 9) (.k (.i .i64 1442695040888963407))),o 11 (.nilc (.t 4)),o 12 (.faddr 2 (.t 11)),oz none none [] (.store 1 (.t 12) (.t 10))])) (.seq (.kp [0,3] (.draw (sq 13) [o 13 (.mv (.t 0)),o 14 (.nilc (.t 13)),o 15 (.faddr 2 (.t 14)),o 16 (.load none (.t 15)),o 17 (.bin .shr 0 (.t 16) (.k (.i .u64 33))),o 18 (.mv (.t 0)),o 19 (.nilc (.t 18)),o 20 (.faddr 2 (.t 19)),o 21 (.load none (.t 20)),o 22 (.bin .shr 0 (.t 21) (.k (.i .u64 45))),o 23 (.bin .xor 0 (.t 17) (.t 22)),o 24 (.bin .and 0 (.t 23) (.k (.i .i64 255))),o 3 (.mv (.t 24))])) (.seq (.seq (.kp [0,3,34] (.draw (sq 10) [o 25 (.mv (.t 0)),o 26 (.nilc (.t 25)),o 27 (.faddr 1 (.t 26)),o 28 (.load none (.t 27)),o 29 (.mv (.t 0)),o 30 (.nilc (.t 29)),o 31 (.faddr 0 (.t 30)),o 32 (.load none (.t 31)),o 33 (.len false (.t 32)),o 34 (.bin .lss 0 (.t 28) (.t 33))])) (.cond (.t 34) (.seq (.kp [0,3] (.draw (sq 15) [o 35 (.mv (.t 3)),o 36 (.mv (.t 0)),o 37 (.nilc (.t 36)),o 38 (.faddr 0 (.t 37)),o 39 (.load none (.t 38)),o 40 (.mv (.t 0)),o 41 (.nilc (.t 40)),o 42 (.faddr 1 (.t 41)),o 43 (.load none (.t 42)),o 44 (.iaddr 1 (.t 39) (.t 43)),o 45 (.load none (.t 44)),o 46 (.conv .i64 (.t 45)),o 47 (.bin .add 0 (.t 35) (.t 46)),o 48 (.bin .and 0 (.t 47) (.k (.i .i64 255))),o 3 (.mv (.t 48))])) (.kp [3] (.ops [o 49 (.mv (.t 0)),o 50 (.mv (.t 0)),o 51 (.nilc (.t 50)),o 52 (.faddr 1 (.t 51)),o 53 (.load none (.t 52)),o 54 (.bin .add 0 (.t 53) (.k (.i .i64 1))),o 55 (.nilc (.t 49)),o 56 (.faddr 1 (.t 55)),oz none none [] (.store 1 (.t 56) (.t 54))]))) C.skip)) (.seq (.kp [2] (.ops [o 57 (.mv (.t 3)),o 2 (.mv (.t 57))])) C.ret)))))
def QaH.F:V.Fn:=⟨1,QaH.B,[.t 2]⟩
def QC.B:C:=(.seq (.kp [0,1] (.ops [o 4 (.mv (.k (.i .i64 0)))])) (.seq (.seq (.kp [0,1,10] (.ops [o 9 (.mv (.t 1)),o 10 (.bin .leq 0 (.t 9) (.k (.i .i64 0)))])) (.cond (.t 10) (.seq (.kp [4] (.ops [o 4 (.mv (.k (.i .i64 0)))])) C.ret) C.skip)) (.seq (.seq (.kp [0,1,12] (.ops [o 11 (.mv (.t 1)),o 12 (.bin .leq 0 (.t 11) (.k (.i .i64 256)))])) (.cond (.t 12) (.seq (.kp [4] (.ops [o 13 (.mv (.t 0)),o 14 (.call 126 [true] [.t 13]),o 15 (.mv (.t 1)),o 16 (.bin .rem 0 (.t 14) (.t 15)),o 4 (.mv (.t 16))])) C.ret) C.skip)) (.seq (.kp [0,1,5] (.ops [o 17 (.mv (.t 0)),o 18 (.call 126 [true] [.t 17]),o 5 (.mv (.t 18))])) (.seq (.kp [0,1,5,6] (.ops [o 19 (.mv (.t 0)),o 20 (.call 126 [true] [.t 19]),o 6 (.mv (.t 20))])) (.seq (.kp [0,1,5,6,7] (.ops [o 21 (.mv (.t 0)),o 22 (.call 126 [true] [.t 21]),o 7 (.mv (.t 22))])) (.seq (.kp [1,5,6,7,8] (.ops [o 23 (.mv (.t 0)),o 24 (.call 126 [true] [.t 23]),o 8 (.mv (.t 24))])) (.seq (.kp [4] (.ops [o 25 (.mv (.t 5)),o 26 (.bin .mul 0 (.t 25) (.k (.i .i64 16777216))),o 27 (.mv (.t 6)),o 28 (.bin .mul 0 (.t 27) (.k (.i .i64 65536))),o 29 (.bin .add 0 (.t 26) (.t 28)),o 30 (.mv (.t 7)),o 31 (.bin .mul 0 (.t 30) (.k (.i .i64 256))),o 32 (.bin .add 0 (.t 29) (.t 31)),o 33 (.mv (.t 8)),o 34 (.bin .add 0 (.t 32) (.t 33)),o 35 (.mv (.t 1)),o 36 (.bin .rem 0 (.t 34) (.t 35)),o 4 (.mv (.t 36))])) C.ret))))))))
def QC.F:V.Fn:=⟨1,QC.B,[.t 4]⟩
def Qak.B:C:=(.seq (.kp [0] (.ops [o 2 (.mv (.k (.i .i64 0)))])) (.seq (.kp [2] (.ops [o 3 (.mv (.t 0)),o 4 (.call 107 [true,false] [.t 3, .k (.i .i64 4)]),o 2 (.mv (.t 4))])) C.ret))
def Qak.F:V.Fn:=⟨1,Qak.B,[.t 2]⟩
def Qa0.B:C:=(.seq (.kp [0,1] (.ops [o 4 (.mv (.k (.b false)))])) (.seq (.kp [4] (.ops [o 5 (.mv (.t 0)),o 6 (.mv (.t 1)),o 7 (.call 107 [true,false] [.t 5, .t 6]),o 8 (.bin .eql 0 (.t 7) (.k (.i .i64 0))),o 4 (.mv (.t 8))])) C.ret))
def Qa0.F:V.Fn:=⟨1,Qa0.B,[.t 4]⟩
def QN.c0:C:=(.seq (.kp [4] (.ops [o 45 (.mv (.t 5)),o 4 (.mv (.t 45))])) C.ret)
def QN.d1:C:=(.seq (.seq (.kp [0,5,6,17] (.ops [o 16 (.mv (.t 6)),o 17 (.bin .gtr 0 (.t 16) (.k (.i .i64 0)))])) (.cond (.t 17) C.skip (.exit 0))) (.seq (.blk 1 (.seq (.kp [0,5,6,7] (.ops [o 20 (.mv (.t 5)),o 21 (.mv (.t 5)),o 22 (.len false (.t 21)),o 23 (.bin .sub 0 (.t 22) (.k (.i .i64 1))),o 24 (.iaddr 2 (.t 20) (.t 23)),o 25 (.faddr 1 (.t 24)),o 26 (.load none (.t 25)),o 7 (.mv (.t 26))])) (.seq (.kp [0,5,6,7,8] (.ops [o 27 (.mv (.t 0)),o 28 (.mv (.t 7)),o 29 (.bin .add 0 (.t 28) (.k (.i .i64 1))),o 30 (.call 107 [true,false] [.t 27, .t 29]),o 31 (.bin .add 0 (.k (.i .i64 1)) (.t 30)),o 8 (.mv (.t 31))])) (.seq (.seq (.kp [0,5,6,7,8,33] (.ops [o 32 (.mv (.t 0)),o 33 (.call 104 [true,false] [.t 32, .k (.i .i64 2)])])) (.cond (.t 33) (.kp [0,5,6,8] (.ops [o 34 (.mv (.t 7)),o 35 (.bin .add 0 (.t 34) (.k (.i .i64 1))),o 8 (.mv (.t 35))])) C.skip)) (.seq (.seq (.kp [0,5,6,8,37] (.ops [o 36 (.mv (.t 8)),o 37 (.bin .gtr 0 (.t 36) (.k (.i .i64 12)))])) (.cond (.t 37) (.kp [0,5,6,8] (.ops [o 8 (.mv (.k (.i .i64 1)))])) C.skip)) (.kp [0,5,6] (.ops [o 38 (.mv (.t 5)),o 39 (.mv (.t 0)),o 40 (.call 123 [true] [.t 39]),o 41 (.mv (.t 8)),o 42 (.build [.i .i64 0, .i .i64 0] [(0,1, .t 40),(1,1, .t 41)]),o 43 (.lit 2 1 [.i .i64 0, .i .i64 0] [(0, .t 42)]),o 44 (.app 2 16 (.t 38) (.t 43)),o 5 (.mv (.t 44))]))))))) (.kp [0,5,6] (.ops [o 18 (.mv (.t 6)),o 19 (.bin .sub 0 (.t 18) (.k (.i .i64 1))),o 6 (.mv (.t 19))]))))
def QN.c1:C := .loop 1 [0,5,6] QN.d1
def QN.B:C:=(.seq (.kp [0,1] (.ops [o 4 (.mv (.k (.nl 2)))])) (.seq (.kp [0,1,5] (.ops [o 9 (.mv (.t 0)),o 10 (.call 123 [true] [.t 9]),o 11 (.build [.i .i64 0, .i .i64 0] [(0,1, .t 10)]),o 12 (.lit 2 1 [.i .i64 0, .i .i64 0] [(0, .t 11)]),o 5 (.mv (.t 12))])) (.seq (.seq (.kp [0,5,6] (.ops [o 13 (.mv (.t 0)),o 14 (.mv (.t 1)),o 15 (.call 107 [true,false] [.t 13, .t 14]),o 6 (.mv (.t 15))])) (.blk 0 QN.c1)) QN.c0)))
def QN.F:V.Fn:=⟨1,QN.B,[.t 4]⟩
def QaL.B:C:=(.seq (.kp [0] (.ops [o 2 (.mv (.k (.nl 2)))])) (.seq (.kp [2] (.ops [o 3 (.lit 2 0 [.i .i64 0, .i .i64 0] []),o 4 (.mv (.t 0)),o 5 (.app 2 16 (.t 3) (.t 4)),o 2 (.mv (.t 5))])) C.ret))
def QaL.F:V.Fn:=⟨1,QaL.B,[.t 2]⟩
def Qaw.B:C:=(.seq (.kp [0,1,2] (.ops [o 6 (.mv (.k (.b false)))])) (.seq (.kp [6] (.ops [o 7 (.mv (.t 0)),o 8 (.mv (.t 1)),o 9 (.bin .geq 0 (.t 7) (.t 8)),o 10 (.mv (.t 9)),og 11 10 true (.mv (.t 0)),og 12 10 true (.mv (.t 2)),og 13 10 true (.bin .leq 0 (.t 11) (.t 12)),o 14 (.pick (.t 10) (.t 13) (.k (.b false))),o 6 (.mv (.t 14))])) C.ret))
def Qaw.F:V.Fn:=⟨0,Qaw.B,[.t 6]⟩
def QaI.B:C:=(.seq (.kp [0] (.ops [o 2 (.mv (.k (.b false)))])) (.seq (.kp [2] (.ops [o 3 (.mv (.t 0)),o 4 (.call 85 [false,false,false] [.t 3, .k (.i .i64 0), .k (.i .i64 5)]),o 2 (.mv (.t 4))])) C.ret))
def QaI.F:V.Fn:=⟨0,QaI.B,[.t 2]⟩
def QG.c0:C:=(.seq (.kp [2] (.ops [o 56 (.mv (.t 0)),o 57 (.len false (.t 56)),o 58 (.call 85 [false,false,false] [.t 57, .k (.i .i64 1), .k (.i .i64 24)]),o 2 (.mv (.t 58))])) C.ret)
def QG.d1:C:=(.seq (.seq (.kp [0,3,7] (.ops [o 4 (.mv (.t 3)),o 5 (.mv (.t 0)),o 6 (.len false (.t 5)),o 7 (.bin .lss 0 (.t 4) (.t 6))])) (.cond (.t 7) C.skip (.exit 0))) (.seq (.blk 1 (.seq (.kp [0,3,55] (.draw (sq 46) [o 10 (.mv (.t 0)),o 11 (.mv (.t 3)),o 12 (.iaddr 2 (.t 10) (.t 11)),o 13 (.faddr 0 (.t 12)),o 14 (.load none (.t 13)),o 15 (.call 87 [false] [.t 14]),o 16 (.un .not (.t 15)),o 17 (.mv (.t 16)),og 18 17 false (.mv (.t 0)),og 19 17 false (.mv (.t 3)),og 20 17 false (.iaddr 2 (.t 18) (.t 19)),og 21 17 false (.faddr 1 (.t 20)),og 22 17 false (.load none (.t 21)),og 23 17 false (.call 85 [false,false,false] [.t 22, .k (.i .i64 0), .k (.i .i64 12)]),og 24 17 false (.un .not (.t 23)),o 25 (.pick (.t 17) (.k (.b true)) (.t 24)),o 26 (.mv (.t 25)),og 27 26 false (.mv (.t 0)),og 28 26 false (.mv (.t 3)),og 29 26 false (.iaddr 2 (.t 27) (.t 28)),og 30 26 false (.faddr 1 (.t 29)),og 31 26 false (.load none (.t 30)),og 32 26 false (.bin .eql 0 (.t 31) (.k (.i .i64 0))),og 33 26 false (.mv (.t 3)),og 34 26 false (.bin .eql 0 (.t 33) (.k (.i .i64 0))),og 35 26 false (.bin .neq 1 (.t 32) (.t 34)),o 36 (.pick (.t 26) (.k (.b true)) (.t 35)),o 37 (.mv (.t 36)),og 38 37 false (.mv (.t 3)),og 39 37 false (.bin .gtr 0 (.t 38) (.k (.i .i64 0))),og 40 37 false (.mv (.t 39)),og 41 40 true (.mv (.t 0)),og 42 40 true (.mv (.t 3)),og 43 40 true (.iaddr 2 (.t 41) (.t 42)),og 44 40 true (.faddr 1 (.t 43)),og 45 40 true (.load none (.t 44)),og 46 40 true (.mv (.t 0)),og 47 40 true (.mv (.t 3)),og 48 40 true (.bin .sub 0 (.t 47) (.k (.i .i64 1))),og 49 40 true (.iaddr 2 (.t 46) (.t 48)),og 50 40 true (.faddr 1 (.t 49)),og 51 40 true (.load none (.t 50)),og 52 40 true (.bin .add 0 (.t 51) (.k (.i .i64 1))),og 53 40 true (.bin .gtr 0 (.t 45) (.t 52)),og 54 37 false (.pick (.t 40) (.t 53) (.k (.b false))),o 55 (.pick (.t 37) (.k (.b true)) (.t 54))])) (.cond (.t 55) (.seq (.kp [2] (.ops [o 2 (.mv (.k (.b false)))])) C.ret) C.skip))) (.kp [0,3] (.ops [o 8 (.mv (.t 3)),o 9 (.bin .add 0 (.t 8) (.k (.i .i64 1))),o 3 (.mv (.t 9))]))))
def QG.c1:C := .loop 1 [0,3] QG.d1
def QG.B:C:=(.seq (.kp [0] (.ops [o 2 (.mv (.k (.b false)))])) (.seq (.seq (.kp [0,3] (.ops [o 3 (.mv (.k (.i .i64 0)))])) (.blk 0 QG.c1)) QG.c0))
def QG.F:V.Fn:=⟨1,QG.B,[.t 2]⟩
def QJ.c0:C:=(.seq (.seq (.kp [0,5,74] (.ops [o 72 (.mv (.t 5)),o 73 (.call 45 [false] [.t 72]),o 74 (.un .not (.t 73))])) (.cond (.t 74) (.seq (.kp [4] (.ops [o 75 (.mv (.t 0)),o 76 (.call 103 [true,false] [.t 75, .k (.i .i64 8)]),o 4 (.mv (.t 76))])) C.ret) C.skip)) (.seq (.kp [4] (.ops [o 77 (.mv (.t 5)),o 4 (.mv (.t 77))])) C.ret))
def QJ.d1:C:=(.seq (.seq (.kp [0,5,6,19] (.ops [o 13 (.mv (.t 6)),o 14 (.bin .gtr 0 (.t 13) (.k (.i .i64 0))),o 15 (.mv (.t 14)),og 16 15 true (.mv (.t 5)),og 17 15 true (.len false (.t 16)),og 18 15 true (.bin .gtr 0 (.t 17) (.k (.i .i64 0))),o 19 (.pick (.t 15) (.t 18) (.k (.b false)))])) (.cond (.t 19) C.skip (.exit 0))) (.seq (.blk 1 (.seq (.kp [0,5,6,7] (.ops [o 22 (.mv (.t 0)),o 23 (.mv (.t 5)),o 24 (.len false (.t 23)),o 25 (.call 107 [true,false] [.t 22, .t 24]),o 7 (.mv (.t 25))])) (.seq (.kp [0,5,6,7,27] (.ops [o 26 (.mv (.t 0)),o 27 (.call 107 [true,false] [.t 26, .k (.i .i64 3)])])) (.blk 2 (.seq (.kp [0,5,6,7,27,46] (.ops [o 47 (.bin .eql 0 (.t 27) (.k (.i .i64 0))),o 46 (.mv (.t 47))])) (.cond (.t 46) (.kp [0,5,6] (.ops [o 48 (.mv (.t 5)),o 49 (.mv (.t 7)),o 50 (.mv (.t 0)),o 51 (.call 123 [true] [.t 50]),o 52 (.iaddr 2 (.t 48) (.t 49)),o 53 (.faddr 0 (.t 52)),oz none none [] (.store 1 (.t 53) (.t 51))])) (.seq (.kp [0,5,6,7,54] (.ops [o 55 (.bin .eql 0 (.t 27) (.k (.i .i64 1))),o 54 (.mv (.t 55))])) (.cond (.t 54) (.seq (.kp [0,5,6,7,62] (.ops [o 56 (.mv (.t 7)),o 57 (.bin .gtr 0 (.t 56) (.k (.i .i64 0))),o 58 (.mv (.t 57)),og 59 58 true (.mv (.t 5)),og 60 58 true (.len false (.t 59)),og 61 58 true (.bin .gtr 0 (.t 60) (.k (.i .i64 1))),o 62 (.pick (.t 58) (.t 61) (.k (.b false)))])) (.cond (.t 62) (.kp [0,5,6] (.draw (tk [0,1,2,4,5,6,7,3,8,9] .done) [o 63 (.mv (.t 5)),o 64 (.mv (.t 7)),o 65 (.slR 2 (.t 63) none (some (.t 64))),o 66 (.call 58 [false] [.t 65]),o 67 (.mv (.t 5)),o 68 (.mv (.t 7)),o 69 (.bin .add 0 (.t 68) (.k (.i .i64 1))),o 70 (.slR 2 (.t 67) (some (.t 69)) none),o 71 (.app 2 16 (.t 66) (.t 70)),o 5 (.mv (.t 71))])) C.skip)) (.kp [0,5,6] (.draw (tk [0,2,4,5,6,7,8,9,10] (.alt (tk [1] (.alt (tk [3,11,12,13,14,15,16,17,18] .done) (tk [11,12,3,13,14,15,16,17,18] .done))) (tk [11,12,1,3,13,14,15,16,17,18] .done))) [o 28 (.mv (.t 5)),o 29 (.call 58 [false] [.t 28]),o 30 (.mv (.t 0)),o 31 (.call 123 [true] [.t 30]),o 32 (.mv (.t 0)),o 33 (.mv (.t 5)),o 34 (.mv (.t 5)),o 35 (.len false (.t 34)),o 36 (.bin .sub 0 (.t 35) (.k (.i .i64 1))),o 37 (.iaddr 2 (.t 33) (.t 36)),o 38 (.faddr 1 (.t 37)),o 39 (.load none (.t 38)),o 40 (.bin .add 0 (.t 39) (.k (.i .i64 1))),o 41 (.call 107 [true,false] [.t 32, .t 40]),o 42 (.bin .add 0 (.k (.i .i64 1)) (.t 41)),o 43 (.build [.i .i64 0, .i .i64 0] [(0,1, .t 31),(1,1, .t 42)]),o 44 (.lit 2 1 [.i .i64 0, .i .i64 0] [(0, .t 43)]),o 45 (.app 2 16 (.t 29) (.t 44)),o 5 (.mv (.t 45))])))))))))) (.kp [0,5,6] (.ops [o 20 (.mv (.t 6)),o 21 (.bin .sub 0 (.t 20) (.k (.i .i64 1))),o 6 (.mv (.t 21))]))))
def QJ.c1:C := .loop 2 [0,5,6] QJ.d1
def QJ.B:C:=(.seq (.kp [0,1] (.ops [o 4 (.mv (.k (.nl 2)))])) (.seq (.kp [0,5] (.ops [o 8 (.mv (.t 1)),o 9 (.call 58 [false] [.t 8]),o 5 (.mv (.t 9))])) (.seq (.seq (.kp [0,5,6] (.ops [o 10 (.mv (.t 0)),o 11 (.call 107 [true,false] [.t 10, .k (.i .i64 3)]),o 12 (.bin .add 0 (.k (.i .i64 1)) (.t 11)),o 6 (.mv (.t 12))])) (.blk 0 QJ.c1)) QJ.c0)))
def QJ.F:V.Fn:=⟨2,QJ.B,[.t 4]⟩
def Qr.c0:C:=(.seq (.kp [0] (.ops [o 33 (.load (some 3) (.t 1)),oz none none [33] (.store 3 (.t 0) (.t 33))])) C.ret)
def Qr.d3:C:=(.seq (.seq (.kp [0,1,2,3,21] (.ops [o 20 (.mv (.t 3)),o 21 (.bin .lss 0 (.t 20) (.k (.i .i64 6)))])) (.cond (.t 21) C.skip (.exit 2))) (.seq (.blk 3 (.seq (.kp [0,1,2,3,4] (.ops [o 4 (.mv (.k (.i .i64 1)))])) (.seq (.seq (.kp [0,1,2,3,4,26] (.ops [o 24 (.mv (.t 2)),o 25 (.mv (.t 3)),o 26 (.bin .eql 0 (.t 24) (.t 25))])) (.cond (.t 26) (.kp [0,1,2,3,4] (.ops [o 4 (.mv (.k (.i .i64 0)))])) C.skip)) (.kp [0,1,2,3] (.ops [o 27 (.faddr 2 (.t 1)),o 28 (.load none (.t 27)),o 29 (.mv (.t 4)),o 30 (.lit 1 1 [.i .i64 0] [(0, .t 29)]),o 31 (.app 1 8 (.t 28) (.t 30)),o 32 (.faddr 2 (.t 1)),oz none none [] (.store 1 (.t 32) (.t 31))]))))) (.kp [0,1,2,3] (.ops [o 22 (.mv (.t 3)),o 23 (.bin .add 0 (.t 22) (.k (.i .i64 1))),o 3 (.mv (.t 23))]))))
def Qr.c3:C := .loop 0 [0,1,2,3] Qr.d3
def Qr.c2:C:=(.kp [0,1,2] (.ops [o 8 (.mv (.t 2)),o 9 (.bin .add 0 (.t 8) (.k (.i .i64 1))),o 2 (.mv (.t 9))]))
def Qr.d1:C:=(.seq (.seq (.kp [0,1,2,7] (.ops [o 6 (.mv (.t 2)),o 7 (.bin .lss 0 (.t 6) (.k (.i .i64 6)))])) (.cond (.t 7) C.skip (.exit 0))) (.seq (.blk 1 (.seq (.kp [0,1,2] (.ops [o 10 (.faddr 0 (.t 1)),o 11 (.load none (.t 10)),o 12 (.lit 1 1 [.i .i64 0] [(0, .k (.i .i64 1))]),o 13 (.app 1 8 (.t 11) (.t 12)),o 14 (.faddr 0 (.t 1)),oz none none [] (.store 1 (.t 14) (.t 13))])) (.seq (.kp [0,1,2] (.ops [o 15 (.faddr 1 (.t 1)),o 16 (.load none (.t 15)),o 17 (.lit 1 1 [.i .i64 0] [(0, .k (.i .i64 1))]),o 18 (.app 1 8 (.t 16) (.t 17)),o 19 (.faddr 1 (.t 1)),oz none none [] (.store 1 (.t 19) (.t 18))])) (.seq (.kp [0,1,2,3] (.ops [o 3 (.mv (.k (.i .i64 0)))])) (.blk 2 Qr.c3))))) Qr.c2))
def Qr.c1:C := .loop 0 [0,1,2] Qr.d1
def Qr.B:C:=(.seq (.kp [0] (.ops [o 0 (.alloc [.deep false false 1 [], .deep false false 1 [], .deep false false 1 []])])) (.seq (.kp [0,1] (.ops [o 5 (.build [.nl 1, .nl 1, .nl 1] []),o 1 (.alloc [.deep false false 1 [], .deep false false 1 [], .deep false false 1 []]),oz none none [] (.store 3 (.t 1) (.t 5))])) (.seq (.seq (.kp [0,1,2] (.ops [o 2 (.mv (.k (.i .i64 0)))])) (.blk 0 Qr.c1)) Qr.c0)))
def Qr.F:V.Fn:=⟨0,Qr.B,[.cell 0 (some 3)]⟩
def Qan.B:C:=(.seq (.kp [0,1] (.ops [o 4 (.mv (.k (.i .i64 0)))])) (.seq (.kp [4] (.ops [o 5 (.mv (.t 1)),o 6 (.mv (.t 0)),o 7 (.mv (.t 1)),o 8 (.len false (.t 7)),o 9 (.call 107 [true,false] [.t 6, .t 8]),o 10 (.iaddr 1 (.t 5) (.t 9)),o 11 (.load none (.t 10)),o 4 (.mv (.t 11))])) C.ret))
def Qan.F:V.Fn:=⟨2,Qan.B,[.t 4]⟩
def Qm.d6:C:=(.seq (.seq (.kp [0,2,3,5,6,50] (.ops [o 49 (.mv (.t 6)),o 50 (.bin .lss 0 (.t 49) (.k (.i .i64 6)))])) (.cond (.t 50) C.skip (.exit 5))) (.seq (.blk 6 (.seq (.kp [0,2,3,5,6,55] (.ops [o 53 (.mv (.t 5)),o 54 (.mv (.t 6)),o 55 (.bin .neq 0 (.t 53) (.t 54))])) (.cond (.t 55) (.kp [0,2,3,5,6] (.draw (tk [0,2,3,4,5,6] (.alt (tk [1,7,8,9,10] .done) (tk [7] (.alt (tk [1,8,9,10] .done) (tk [8,1,9,10] .done))))) [o 56 (.faddr 2 (.t 3)),o 57 (.load none (.t 56)),o 58 (.mv (.t 5)),o 59 (.bin .mul 0 (.t 58) (.k (.i .i64 6))),o 60 (.mv (.t 6)),o 61 (.bin .add 0 (.t 59) (.t 60)),o 62 (.mv (.t 0)),o 63 (.lit 1 5 [.i .i64 0] [(0, .k (.i .i64 0)),(1, .k (.i .i64 1)),(2, .k (.i .i64 4)),(3, .k (.i .i64 9)),(4, .k (.i .i64 1000))]),o 64 (.call 125 [true,true] [.t 62, .t 63]),o 65 (.iaddr 1 (.t 57) (.t 61)),oz none none [] (.store 1 (.t 65) (.t 64))])) C.skip))) (.kp [0,2,3,5,6] (.ops [o 51 (.mv (.t 6)),o 52 (.bin .add 0 (.t 51) (.k (.i .i64 1))),o 6 (.mv (.t 52))]))))
def Qm.c6:C := .loop 1 [0,2,3,5,6] Qm.d6
def Qm.c5:C:=(.kp [0,2,3,5] (.ops [o 35 (.mv (.t 5)),o 36 (.bin .add 0 (.t 35) (.k (.i .i64 1))),o 5 (.mv (.t 36))]))
def Qm.d4:C:=(.seq (.seq (.kp [0,2,3,5,34] (.ops [o 33 (.mv (.t 5)),o 34 (.bin .lss 0 (.t 33) (.k (.i .i64 6)))])) (.cond (.t 34) C.skip (.exit 3))) (.seq (.blk 4 (.seq (.kp [0,2,3,5] (.draw (tk [0,2,3] (.alt (tk [1,4,5,6] .done) (tk [4,1,5,6] .done))) [o 37 (.faddr 0 (.t 3)),o 38 (.load none (.t 37)),o 39 (.mv (.t 5)),o 40 (.mv (.t 0)),o 41 (.call 107 [true,false] [.t 40, .k (.i .i64 7)]),o 42 (.iaddr 1 (.t 38) (.t 39)),oz none none [] (.store 1 (.t 42) (.t 41))])) (.seq (.kp [0,2,3,5] (.draw (tk [0,2,3] (.alt (tk [1,4,5,6] .done) (tk [4,1,5,6] .done))) [o 43 (.faddr 1 (.t 3)),o 44 (.load none (.t 43)),o 45 (.mv (.t 5)),o 46 (.mv (.t 0)),o 47 (.call 107 [true,false] [.t 46, .k (.i .i64 7)]),o 48 (.iaddr 1 (.t 44) (.t 45)),oz none none [] (.store 1 (.t 48) (.t 47))])) (.seq (.kp [0,2,3,5,6] (.ops [o 6 (.mv (.k (.i .i64 0)))])) (.blk 5 Qm.c6))))) Qm.c5))
def Qm.c4:C := .loop 1 [0,2,3,5] Qm.d4
def Qm.c3:C:=(.seq (.kp [2] (.ops [o 66 (.load (some 3) (.t 3)),oz none none [66] (.store 3 (.t 2) (.t 66))])) C.ret)
def Qm.c0:C:=(.seq (.seq (.kp [0,2,3,5] (.ops [o 5 (.mv (.k (.i .i64 0)))])) (.blk 3 Qm.c4)) Qm.c3)
def Qm.c1:C:=(.seq (.kp [2] (.ops [o 32 (.load (some 3) (.t 3)),oz none none [32] (.store 3 (.t 2) (.t 32))])) C.ret)
def Qm.d2:C:=(.seq (.seq (.kp [2,3,4,19] (.ops [o 15 (.mv (.t 4)),o 16 (.faddr 2 (.t 3)),o 17 (.load none (.t 16)),o 18 (.len false (.t 17)),o 19 (.bin .lss 0 (.t 15) (.t 18))])) (.cond (.t 19) C.skip (.exit 1))) (.seq (.blk 2 (.kp [2,3,4] (.draw (sq 11) [o 22 (.faddr 2 (.t 3)),o 23 (.load none (.t 22)),o 24 (.mv (.t 4)),o 25 (.faddr 2 (.t 3)),o 26 (.load none (.t 25)),o 27 (.mv (.t 4)),o 28 (.iaddr 1 (.t 26) (.t 27)),o 29 (.load none (.t 28)),o 30 (.bin .mul 0 (.t 29) (.k (.i .i64 3))),o 31 (.iaddr 1 (.t 23) (.t 24)),oz none none [] (.store 1 (.t 31) (.t 30))]))) (.kp [2,3,4] (.ops [o 20 (.mv (.t 4)),o 21 (.bin .add 0 (.t 20) (.k (.i .i64 1))),o 4 (.mv (.t 21))]))))
def Qm.c2:C := .loop 1 [2,3,4] Qm.d2
def Qm.B:C:=(.seq (.kp [0,2] (.ops [o 2 (.alloc [.deep false false 1 [], .deep false false 1 [], .deep false false 1 []])])) (.seq (.kp [0,2,3] (.ops [o 7 (.call 124 [] []),o 3 (.alloc [.deep false false 1 [], .deep false false 1 [], .deep false false 1 []]),oz none none [] (.store 3 (.t 3) (.t 7))])) (.seq (.seq (.kp [0,2,3,9] (.ops [o 8 (.mv (.t 0)),o 9 (.call 107 [true,false] [.t 8, .k (.i .i64 4)])])) (.blk 0 (.seq (.kp [0,2,3,9,10] (.ops [o 11 (.bin .eql 0 (.t 9) (.k (.i .i64 0))),o 10 (.mv (.t 11))])) (.cond (.t 10) (.seq (.kp [2] (.ops [o 12 (.load (some 3) (.t 3)),oz none none [12] (.store 3 (.t 2) (.t 12))])) C.ret) (.seq (.kp [0,2,3,13] (.ops [o 14 (.bin .eql 0 (.t 9) (.k (.i .i64 1))),o 13 (.mv (.t 14))])) (.cond (.t 13) (.seq (.seq (.kp [2,3,4] (.ops [o 4 (.mv (.k (.i .i64 0)))])) (.blk 1 Qm.c2)) Qm.c1) C.skip)))))) Qm.c0)))
def Qm.F:V.Fn:=⟨1,Qm.B,[.cell 2 (some 3)]⟩
def Qbr.B:C:=(.seq (.kp [0] (.ops [o 2 (.mv (.k (.i .i64 0)))])) (.seq (.kp [2] (.ops [o 3 (.mv (.t 0)),o 4 (.lit 1 7 [.i .i64 0] [(0, .k (.i .i64 0)),(1, .k (.i .i64 1)),(2, .k (.i .i64 2)),(3, .k (.i .i64 3)),(4, .k (.i .i64 5)),(5, .k (.i .i64 6)),(6, .k (.i .i64 (-1)))]),o 5 (.call 125 [true,true] [.t 3, .t 4]),o 2 (.mv (.t 5))])) C.ret))
def Qbr.F:V.Fn:=⟨1,Qbr.B,[.t 2]⟩
def QB.c0:C:=(.seq (.kp [4] (.ops [o 71 (.mv (.t 5)),o 4 (.mv (.t 71))])) C.ret)
def QB.d1:C:=(.seq (.seq (.kp [0,5,50] (.ops [o 45 (.mv (.t 5)),o 46 (.len false (.t 45)),o 47 (.mv (.t 0)),o 48 (.call 107 [true,false] [.t 47, .k (.i .i64 2)]),o 49 (.bin .add 0 (.k (.i .i64 24)) (.t 48)),o 50 (.bin .lss 0 (.t 46) (.t 49))])) (.cond (.t 50) C.skip (.exit 1))) (.blk 2 (.kp [0,5] (.ops [o 51 (.mv (.t 5)),o 52 (.build [.i .i64 0, .i .i64 0] [(0,1, .k (.i .i64 1)),(1,1, .k (.i .i64 1))]),o 53 (.lit 2 1 [.i .i64 0, .i .i64 0] [(0, .t 52)]),o 54 (.app 2 16 (.t 51) (.t 53)),o 5 (.mv (.t 54))]))))
def QB.c1:C := .loop 1 [0,5] QB.d1
def QB.d2:C:=(.seq (.seq (.kp [0,5,64] (.ops [o 59 (.mv (.t 5)),o 60 (.len false (.t 59)),o 61 (.mv (.t 0)),o 62 (.call 107 [true,false] [.t 61, .k (.i .i64 2)]),o 63 (.bin .add 0 (.k (.i .i64 13)) (.t 62)),o 64 (.bin .lss 0 (.t 60) (.t 63))])) (.cond (.t 64) C.skip (.exit 3))) (.blk 4 (.kp [0,5] (.ops [o 65 (.mv (.t 5)),o 66 (.mv (.t 5)),o 67 (.len false (.t 66)),o 68 (.build [.i .i64 0, .i .i64 0] [(1,1, .t 67)]),o 69 (.lit 2 1 [.i .i64 0, .i .i64 0] [(0, .t 68)]),o 70 (.app 2 16 (.t 65) (.t 69)),o 5 (.mv (.t 70))]))))
def QB.c2:C := .loop 1 [0,5] QB.d2
def QB.B:C:=(.seq (.kp [0,1] (.ops [o 4 (.mv (.k (.nl 2)))])) (.seq (.kp [0,5] (.ops [o 7 (.mv (.t 0)),o 8 (.mv (.t 1)),o 9 (.call 103 [true,false] [.t 7, .t 8]),o 5 (.mv (.t 9))])) (.seq (.kp [0,5,6] (.ops [o 10 (.mv (.t 0)),o 11 (.mv (.t 5)),o 12 (.len false (.t 11)),o 13 (.call 107 [true,false] [.t 10, .t 12]),o 6 (.mv (.t 13))])) (.seq (.seq (.kp [0,5,6,15] (.ops [o 14 (.mv (.t 0)),o 15 (.call 107 [true,false] [.t 14, .k (.i .i64 18)])])) (.blk 0 (.seq (.kp [0,5,6,15,16] (.ops [o 17 (.bin .eql 0 (.t 15) (.k (.i .i64 0))),o 16 (.mv (.t 17))])) (.cond (.t 16) (.kp [5] (.ops [o 18 (.mv (.t 5)),o 19 (.mv (.t 6)),o 20 (.mv (.t 0)),o 21 (.call 127 [true] [.t 20]),o 22 (.iaddr 2 (.t 18) (.t 19)),o 23 (.faddr 0 (.t 22)),oz none none [] (.store 1 (.t 23) (.t 21))])) (.seq (.kp [0,5,6,15,24] (.ops [o 25 (.bin .eql 0 (.t 15) (.k (.i .i64 1))),o 24 (.mv (.t 25))])) (.cond (.t 24) (.kp [5] (.ops [o 26 (.mv (.t 5)),o 27 (.mv (.t 6)),o 28 (.mv (.t 0)),o 29 (.mv (.t 5)),o 30 (.mv (.t 6)),o 31 (.iaddr 2 (.t 29) (.t 30)),o 32 (.faddr 1 (.t 31)),o 33 (.load none (.t 32)),o 34 (.bin .add 0 (.t 33) (.k (.i .i64 1))),o 35 (.lit 1 5 [.i .i64 0] [(0, .k (.i .i64 (-1))),(1, .k (.i .i64 0)),(2, .k (.i .i64 1)),(3, .k (.i .i64 13)),(4, .t 34)]),o 36 (.call 125 [true,true] [.t 28, .t 35]),o 37 (.iaddr 2 (.t 26) (.t 27)),o 38 (.faddr 1 (.t 37)),oz none none [] (.store 1 (.t 38) (.t 36))])) (.seq (.kp [0,5,15,39] (.ops [o 40 (.bin .eql 0 (.t 15) (.k (.i .i64 2))),o 39 (.mv (.t 40))])) (.cond (.t 39) (.seq (.kp [4] (.ops [o 41 (.mv (.t 5)),o 42 (.slR 2 (.t 41) (some (.k (.i .i64 1))) none),o 4 (.mv (.t 42))])) C.ret) (.seq (.kp [0,5,15,43] (.ops [o 44 (.bin .eql 0 (.t 15) (.k (.i .i64 3))),o 43 (.mv (.t 44))])) (.cond (.t 43) (.blk 1 QB.c1) (.seq (.kp [0,5,55] (.ops [o 56 (.bin .eql 0 (.t 15) (.k (.i .i64 4))),o 55 (.mv (.t 56))])) (.cond (.t 55) (.seq (.kp [0,5] (.ops [o 57 (.build [.i .i64 0, .i .i64 0] []),o 58 (.lit 2 1 [.i .i64 0, .i .i64 0] [(0, .t 57)]),o 5 (.mv (.t 58))])) (.blk 3 QB.c2)) C.skip)))))))))))) QB.c0))))
def QB.F:V.Fn:=⟨1,QB.B,[.t 4]⟩
def Qbq.B:C:=(.seq (.kp [0,2] (.ops [o 2 (.alloc [.deep false false 1 [], .deep false false 1 [], .deep false false 1 []])])) (.seq (.kp [0,2,3] (.ops [o 4 (.mv (.t 0)),o 5 (.call 106 [true] [.t 4]),o 3 (.alloc [.deep false false 1 [], .deep false false 1 [], .deep false false 1 []]),oz none none [] (.store 3 (.t 3) (.t 5))])) (.seq (.seq (.kp [0,2,3,7] (.ops [o 6 (.mv (.t 0)),o 7 (.call 107 [true,false] [.t 6, .k (.i .i64 14)])])) (.blk 0 (.seq (.kp [0,2,3,7,8] (.ops [o 9 (.bin .eql 0 (.t 7) (.k (.i .i64 0))),o 8 (.mv (.t 9))])) (.cond (.t 8) (.kp [2,3] (.draw (tk [0,2,4] (.alt (tk [1] (.alt (tk [3,5,6,7,8] .done) (tk [5,3,6,7,8] .done))) (tk [] (.alt (tk [3] (.alt (tk [1,5,6,7,8] .done) (tk [5] (.alt (tk [1,6,7,8] .done) (tk [6,1,7,8] .done))))) (tk [5] (.alt (tk [1,3,6,7,8] .done) (tk [3] (.alt (tk [1,6,7,8] .done) (tk [6,1,7,8] .done))))))))) [o 10 (.faddr 0 (.t 3)),o 11 (.load none (.t 10)),o 12 (.mv (.t 0)),o 13 (.call 107 [true,false] [.t 12, .k (.i .i64 6)]),o 14 (.mv (.t 0)),o 15 (.lit 1 3 [.i .i64 0] [(0, .k (.i .i64 (-1))),(1, .k (.i .i64 1001)),(2, .k (.i .i64 1000))]),o 16 (.call 125 [true,true] [.t 14, .t 15]),o 17 (.iaddr 1 (.t 11) (.t 13)),oz none none [] (.store 1 (.t 17) (.t 16))])) (.seq (.kp [0,2,3,7,18] (.ops [o 19 (.bin .eql 0 (.t 7) (.k (.i .i64 1))),o 18 (.mv (.t 19))])) (.cond (.t 18) (.kp [2,3] (.draw (tk [0,2] (.alt (tk [1,3,4,5] .done) (tk [3,1,4,5] .done))) [o 20 (.faddr 2 (.t 3)),o 21 (.load none (.t 20)),o 22 (.mv (.t 0)),o 23 (.call 107 [true,false] [.t 22, .k (.i .i64 36)]),o 24 (.iaddr 1 (.t 21) (.t 23)),oz none none [] (.store 1 (.t 24) (.k (.i .i64 5)))])) (.seq (.kp [2,3,25] (.ops [o 26 (.bin .eql 0 (.t 7) (.k (.i .i64 2))),o 25 (.mv (.t 26))])) (.cond (.t 25) (.kp [2,3] (.ops [o 27 (.faddr 1 (.t 3)),o 28 (.load none (.t 27)),o 29 (.slR 1 (.t 28) (some (.k (.i .i64 1))) none),o 30 (.faddr 1 (.t 3)),oz none none [29] (.store 1 (.t 30) (.t 29))])) C.skip)))))))) (.seq (.kp [2] (.ops [o 31 (.load (some 3) (.t 3)),oz none none [31] (.store 3 (.t 2) (.t 31))])) C.ret))))
def Qbq.F:V.Fn:=⟨1,Qbq.B,[.cell 2 (some 3)]⟩
def Qab.c0:C:=(.seq (.kp [0,1,6,7,8,9] (.ops [o 21 (.mv (.t 0)),o 22 (.call 106 [true] [.t 21]),o 9 (.alloc [.deep false false 1 [], .deep false false 1 [], .deep false false 1 []]),oz none none [] (.store 3 (.t 9) (.t 22))])) (.seq (.seq (.kp [0,1,6,7,8,9,24] (.ops [o 23 (.mv (.t 0)),o 24 (.call 107 [true,false] [.t 23, .k (.i .i64 24)])])) (.blk 0 (.seq (.kp [0,1,6,7,8,9,24,25] (.ops [o 26 (.bin .eql 0 (.t 24) (.k (.i .i64 0))),o 25 (.mv (.t 26))])) (.cond (.t 25) (.kp [6,7,8,9] (.ops [o 27 (.mv (.t 0)),o 28 (.mv (.t 1)),o 29 (.call 108 [true,false] [.t 27, .t 28]),o 7 (.mv (.t 29))])) (.seq (.kp [0,6,7,8,9,30] (.ops [o 31 (.bin .eql 0 (.t 24) (.k (.i .i64 1))),o 30 (.mv (.t 31))])) (.cond (.t 30) (.kp [6,7,8,9] (.ops [o 32 (.mv (.t 0)),o 33 (.call 109 [true] [.t 32]),oz none none [] (.store 3 (.t 9) (.t 33))])) C.skip)))))) (.seq (.kp [4,5,6] (.draw (sq 6) [o 34 (.mv (.t 7)),o 35 (.mv (.t 8)),o 36 (.load (some 3) (.t 9)),o 4 (.mv (.t 34)),o 5 (.mv (.t 35)),oz none none [36] (.store 3 (.t 6) (.t 36))])) C.ret)))
def Qab.B:C:=(.seq (.kp [0,1,6] (.ops [o 4 (.mv (.k (.nl 2))),o 5 (.mv (.k (.nl 2))),o 6 (.alloc [.deep false false 1 [], .deep false false 1 [], .deep false false 1 []])])) (.seq (.kp [0,1,6,7] (.ops [o 10 (.mv (.t 0)),o 11 (.mv (.t 1)),o 12 (.call 103 [true,false] [.t 10, .t 11]),o 7 (.mv (.t 12))])) (.seq (.kp [0,1,6,7,8] (.ops [o 13 (.mv (.t 0)),o 14 (.mv (.t 1)),o 15 (.call 103 [true,false] [.t 13, .t 14]),o 8 (.mv (.t 15))])) (.seq (.jn 1 [0,1,6,7,8] (.seq (.kp [0,1,6,7,8,17] (.ops [o 16 (.mv (.t 0)),o 17 (.call 104 [true,false] [.t 16, .k (.i .i64 2)])])) (.cond (.t 17) (.kp [0,1,6,7,8] (.ops [o 18 (.mv (.t 0)),o 19 (.mv (.t 7)),o 20 (.call 105 [true,true] [.t 18, .t 19]),o 8 (.mv (.t 20))])) C.skip))) Qab.c0))))
def Qab.F:V.Fn:=⟨1,Qab.B,[.t 4, .t 5, .cell 6 (some 3)]⟩
def QaW.B:C:=(.seq (.kp [0,1] (.ops [o 4 (.mv (.k (.b false)))])) (.seq (.kp [4] (.ops [o 5 (.mv (.t 0)),o 6 (.call 45 [false] [.t 5]),o 7 (.mv (.t 6)),og 8 7 true (.mv (.t 1)),og 9 7 true (.mv (.t 0)),og 10 7 true (.len false (.t 9)),og 11 7 true (.bin .sub 0 (.t 10) (.k (.i .i64 1))),og 12 7 true (.call 85 [false,false,false] [.t 8, .k (.i .i64 0), .t 11]),o 13 (.pick (.t 7) (.t 12) (.k (.b false))),o 4 (.mv (.t 13))])) C.ret))
def QaW.F:V.Fn:=⟨1,QaW.B,[.t 4]⟩
def Q2.c0:C:=(.seq (.kp [4] (.ops [o 31 (.mv (.t 5)),o 4 (.mv (.t 31))])) C.ret)
def Q2.d1:C:=(.seq (.seq (.kp [0,1,5,28] (.draw (sq 17) [o 12 (.mv (.t 5)),o 13 (.mv (.t 0)),o 14 (.len false (.t 13)),o 15 (.bin .lss 0 (.t 12) (.t 14)),o 16 (.mv (.t 15)),og 17 16 true (.mv (.t 0)),og 18 16 true (.mv (.t 5)),og 19 16 true (.iaddr 2 (.t 17) (.t 18)),og 20 16 true (.faddr 1 (.t 19)),og 21 16 true (.load none (.t 20)),og 22 16 true (.mv (.t 0)),og 23 16 true (.mv (.t 1)),og 24 16 true (.iaddr 2 (.t 22) (.t 23)),og 25 16 true (.faddr 1 (.t 24)),og 26 16 true (.load none (.t 25)),og 27 16 true (.bin .gtr 0 (.t 21) (.t 26)),o 28 (.pick (.t 16) (.t 27) (.k (.b false)))])) (.cond (.t 28) C.skip (.exit 0))) (.blk 1 (.kp [0,1,5] (.ops [o 29 (.mv (.t 5)),o 30 (.bin .add 0 (.t 29) (.k (.i .i64 1))),o 5 (.mv (.t 30))]))))
def Q2.c1:C := .loop 1 [0,1,5] Q2.d1
def Q2.B:C:=(.seq (.kp [0,1] (.ops [o 4 (.mv (.k (.i .i64 0)))])) (.seq (.seq (.kp [0,1,9] (.ops [o 6 (.mv (.t 0)),o 7 (.mv (.t 1)),o 8 (.call 43 [false,false] [.t 6, .t 7]),o 9 (.un .not (.t 8))])) (.cond (.t 9) (.seq (.kp [4] (.ops [o 4 (.mv (.k (.i .i64 (-1))))])) C.ret) C.skip)) (.seq (.kp [0,1,5] (.ops [o 10 (.mv (.t 1)),o 11 (.bin .add 0 (.t 10) (.k (.i .i64 1))),o 5 (.mv (.t 11))])) (.seq (.blk 0 Q2.c1) Q2.c0))))
def Q2.F:V.Fn:=⟨1,Q2.B,[.t 4]⟩
def Qbh.B:C:=(.seq (.kp [0,1,2] (.ops [o 6 (.mv (.k (.b false)))])) (.seq (.kp [6] (.ops [o 7 (.mv (.t 0)),o 8 (.mv (.t 1)),o 9 (.call 43 [false,false] [.t 7, .t 8]),o 10 (.mv (.t 9)),og 11 10 true (.mv (.t 0)),og 12 10 true (.mv (.t 2)),og 13 10 true (.call 43 [false,false] [.t 11, .t 12]),o 14 (.pick (.t 10) (.t 13) (.k (.b false))),o 15 (.mv (.t 14)),og 16 15 true (.mv (.t 2)),og 17 15 true (.mv (.t 1)),og 18 15 true (.bin .gtr 0 (.t 16) (.t 17)),o 19 (.pick (.t 15) (.t 18) (.k (.b false))),o 20 (.mv (.t 19)),og 21 20 true (.mv (.t 2)),og 22 20 true (.mv (.t 0)),og 23 20 true (.mv (.t 1)),og 24 20 true (.call 86 [false,false] [.t 22, .t 23]),og 25 20 true (.bin .lss 0 (.t 21) (.t 24)),o 26 (.pick (.t 20) (.t 25) (.k (.b false))),o 6 (.mv (.t 26))])) C.ret))
def Qbh.F:V.Fn:=⟨1,Qbh.B,[.t 6]⟩
def Qu.c0:C:=(.seq (.kp [6] (.ops [o 94 (.mv (.t 0)),o 95 (.call 45 [false] [.t 94]),o 96 (.mv (.t 95)),og 97 96 true (.mv (.t 1)),og 98 96 true (.call 45 [false] [.t 97]),o 99 (.pick (.t 96) (.t 98) (.k (.b false))),o 6 (.mv (.t 99))])) C.ret)
def Qu.d3:C:=(.seq (.seq (.kp [0,1,2,7,8,53] (.ops [o 51 (.mv (.t 8)),o 52 (.mv (.t 7)),o 53 (.bin .lss 0 (.t 51) (.t 52))])) (.cond (.t 53) C.skip (.exit 2))) (.seq (.blk 3 (.seq (.kp [0,1,2,7,8,93] (.draw (tk [0,1,2,3,4,5,6,7,8,9,10,11,12,13,14,15,16,17,18,19,20,21,22,24,25,26,27,28,30,31,32,33] (.alt (tk [23,29,34,35,36,37] .done) (tk [] (.alt (tk [29] (.alt (tk [23,34,35,36,37] .done) (tk [34,23,35,36,37] .done))) (tk [34] (.alt (tk [23,29,35,36,37] .done) (tk [29,23,35,36,37] .done))))))) [o 56 (.mv (.t 2)),o 57 (.mv (.t 8)),o 58 (.iaddr 2 (.t 56) (.t 57)),o 59 (.faddr 1 (.t 58)),o 60 (.load none (.t 59)),o 61 (.mv (.t 2)),o 62 (.mv (.t 7)),o 63 (.iaddr 2 (.t 61) (.t 62)),o 64 (.faddr 1 (.t 63)),o 65 (.load none (.t 64)),o 66 (.bin .geq 0 (.t 60) (.t 65)),o 67 (.mv (.t 66)),og 68 67 false (.mv (.t 0)),og 69 67 false (.mv (.t 2)),og 70 67 false (.mv (.t 8)),og 71 67 false (.iaddr 2 (.t 69) (.t 70)),og 72 67 false (.faddr 0 (.t 71)),og 73 67 false (.load none (.t 72)),og 74 67 false (.mv (.t 2)),og 75 67 false (.mv (.t 7)),og 76 67 false (.iaddr 2 (.t 74) (.t 75)),og 77 67 false (.faddr 0 (.t 76)),og 78 67 false (.load none (.t 77)),og 79 67 false (.call 44 [false,false,false] [.t 68, .t 73, .t 78]),og 80 67 false (.mv (.t 1)),og 81 67 false (.mv (.t 2)),og 82 67 false (.mv (.t 8)),og 83 67 false (.iaddr 2 (.t 81) (.t 82)),og 84 67 false (.faddr 1 (.t 83)),og 85 67 false (.load none (.t 84)),og 86 67 false (.mv (.t 2)),og 87 67 false (.mv (.t 7)),og 88 67 false (.iaddr 2 (.t 86) (.t 87)),og 89 67 false (.faddr 1 (.t 88)),og 90 67 false (.load none (.t 89)),og 91 67 false (.call 44 [false,false,false] [.t 80, .t 85, .t 90]),og 92 67 false (.bin .neq 1 (.t 79) (.t 91)),o 93 (.pick (.t 67) (.k (.b true)) (.t 92))])) (.cond (.t 93) (.seq (.kp [6] (.ops [o 6 (.mv (.k (.b false)))])) C.ret) C.skip))) (.kp [0,1,2,7,8] (.ops [o 54 (.mv (.t 8)),o 55 (.bin .add 0 (.t 54) (.k (.i .i64 1))),o 8 (.mv (.t 55))]))))
def Qu.c3:C := .loop 3 [0,1,2,7,8] Qu.d3
def Qu.c2:C:=(.kp [0,1,2,7] (.ops [o 13 (.mv (.t 7)),o 14 (.bin .add 0 (.t 13) (.k (.i .i64 1))),o 7 (.mv (.t 14))]))
def Qu.d1:C:=(.seq (.seq (.kp [0,1,2,7,12] (.ops [o 9 (.mv (.t 7)),o 10 (.mv (.t 2)),o 11 (.len false (.t 10)),o 12 (.bin .lss 0 (.t 9) (.t 11))])) (.cond (.t 12) C.skip (.exit 0))) (.seq (.blk 1 (.seq (.seq (.kp [0,1,2,7,50] (.draw (sq 36) [o 15 (.mv (.t 0)),o 16 (.mv (.t 2)),o 17 (.mv (.t 7)),o 18 (.iaddr 2 (.t 16) (.t 17)),o 19 (.faddr 0 (.t 18)),o 20 (.load none (.t 19)),o 21 (.call 43 [false,false] [.t 15, .t 20]),o 22 (.un .not (.t 21)),o 23 (.mv (.t 22)),og 24 23 false (.mv (.t 1)),og 25 23 false (.mv (.t 2)),og 26 23 false (.mv (.t 7)),og 27 23 false (.iaddr 2 (.t 25) (.t 26)),og 28 23 false (.faddr 1 (.t 27)),og 29 23 false (.load none (.t 28)),og 30 23 false (.call 43 [false,false] [.t 24, .t 29]),og 31 23 false (.un .not (.t 30)),o 32 (.pick (.t 23) (.k (.b true)) (.t 31)),o 33 (.mv (.t 32)),og 34 33 false (.mv (.t 7)),og 35 33 false (.bin .gtr 0 (.t 34) (.k (.i .i64 0))),og 36 33 false (.mv (.t 35)),og 37 36 true (.mv (.t 2)),og 38 36 true (.mv (.t 7)),og 39 36 true (.iaddr 2 (.t 37) (.t 38)),og 40 36 true (.faddr 0 (.t 39)),og 41 36 true (.load none (.t 40)),og 42 36 true (.mv (.t 2)),og 43 36 true (.mv (.t 7)),og 44 36 true (.bin .sub 0 (.t 43) (.k (.i .i64 1))),og 45 36 true (.iaddr 2 (.t 42) (.t 44)),og 46 36 true (.faddr 0 (.t 45)),og 47 36 true (.load none (.t 46)),og 48 36 true (.bin .leq 0 (.t 41) (.t 47)),og 49 33 false (.pick (.t 36) (.t 48) (.k (.b false))),o 50 (.pick (.t 33) (.k (.b true)) (.t 49))])) (.cond (.t 50) (.seq (.kp [6] (.ops [o 6 (.mv (.k (.b false)))])) C.ret) C.skip)) (.seq (.kp [0,1,2,7,8] (.ops [o 8 (.mv (.k (.i .i64 0)))])) (.blk 2 Qu.c3)))) Qu.c2))
def Qu.c1:C := .loop 3 [0,1,2,7] Qu.d1
def Qu.B:C:=(.seq (.kp [0,1,2] (.ops [o 6 (.mv (.k (.b false)))])) (.seq (.seq (.kp [0,1,2,7] (.ops [o 7 (.mv (.k (.i .i64 0)))])) (.blk 0 Qu.c1)) Qu.c0))
def Qu.F:V.Fn:=⟨3,Qu.B,[.t 6]⟩
def Qx.c0:C:=(.seq (.kp [6] (.ops [o 46 (.mv (.t 7)),o 6 (.mv (.t 46))])) C.ret)
def Qx.d3:C:=(.seq (.seq (.kp [0,1,2,7,8,9,20] (.ops [o 19 (.mv (.t 9)),o 20 (.bin .lss 0 (.t 19) (.k (.i .i64 3)))])) (.cond (.t 20) C.skip (.exit 2))) (.seq (.blk 3 (.seq (.kp [0,1,2,7,8,9,10] (.draw (tk [1,3,4,5,6,7,8,9,12] (.alt (tk [0] (.alt (tk [2] (.alt (tk [10,11,13,14,15,16,17,18] .done) (tk [13,10,11,14,15,16,17,18] .done))) (tk [10,11,2,13,14,15,16,17,18] .done))) (tk [10,11,0,2,13,14,15,16,17,18] .done))) [o 23 (.lit 2 0 [.i .i64 0, .i .i64 0] []),o 24 (.mv (.t 7)),o 25 (.app 2 16 (.t 23) (.t 24)),o 26 (.mv (.t 8)),o 27 (.mv (.t 7)),o 28 (.mv (.t 7)),o 29 (.len false (.t 28)),o 30 (.bin .sub 0 (.t 29) (.k (.i .i64 1))),o 31 (.iaddr 2 (.t 27) (.t 30)),o 32 (.faddr 1 (.t 31)),o 33 (.load none (.t 32)),o 34 (.bin .add 0 (.t 33) (.k (.i .i64 1))),o 35 (.mv (.t 0)),o 36 (.call 107 [true,false] [.t 35, .k (.i .i64 3)]),o 37 (.bin .add 0 (.t 34) (.t 36)),o 38 (.build [.i .i64 0, .i .i64 0] [(0,1, .t 26),(1,1, .t 37)]),o 39 (.lit 2 1 [.i .i64 0, .i .i64 0] [(0, .t 38)]),o 40 (.app 2 16 (.t 25) (.t 39)),o 10 (.mv (.t 40))])) (.seq (.kp [0,1,2,7,8,9,10,44] (.ops [o 41 (.mv (.t 1)),o 42 (.mv (.t 2)),o 43 (.mv (.t 10)),o 44 (.call 8 [false,false,false] [.t 41, .t 42, .t 43])])) (.cond (.t 44) (.seq (.kp [0,1,2,7,8] (.ops [o 45 (.mv (.t 10)),o 7 (.mv (.t 45))])) (.exit 2)) C.skip)))) (.kp [0,1,2,7,8,9] (.ops [o 21 (.mv (.t 9)),o 22 (.bin .add 0 (.t 21) (.k (.i .i64 1))),o 9 (.mv (.t 22))]))))
def Qx.c3:C := .loop 3 [0,1,2,7,8,9] Qx.d3
def Qx.c2:C:=(.kp [0,1,2,7,8] (.ops [o 17 (.mv (.t 8)),o 18 (.bin .add 0 (.t 17) (.k (.i .i64 1))),o 8 (.mv (.t 18))]))
def Qx.d1:C:=(.seq (.seq (.kp [0,1,2,7,8,16] (.ops [o 13 (.mv (.t 8)),o 14 (.mv (.t 1)),o 15 (.len false (.t 14)),o 16 (.bin .lss 0 (.t 13) (.t 15))])) (.cond (.t 16) C.skip (.exit 0))) (.seq (.blk 1 (.seq (.kp [0,1,2,7,8,9] (.ops [o 9 (.mv (.k (.i .i64 0)))])) (.blk 2 Qx.c3))) Qx.c2))
def Qx.c1:C := .loop 3 [0,1,2,7,8] Qx.d1
def Qx.B:C:=(.seq (.kp [0,1,2] (.ops [o 6 (.mv (.k (.nl 2)))])) (.seq (.kp [0,1,2,7] (.ops [o 11 (.build [.i .i64 0, .i .i64 0] []),o 12 (.lit 2 1 [.i .i64 0, .i .i64 0] [(0, .t 11)]),o 7 (.mv (.t 12))])) (.seq (.seq (.kp [0,1,2,7,8] (.ops [o 8 (.mv (.k (.i .i64 1)))])) (.blk 0 Qx.c1)) Qx.c0)))
def Qx.F:V.Fn:=⟨3,Qx.B,[.t 6]⟩
def Qbd.B:C:=(.seq (.kp [0,1,2] (.ops [o 6 (.mv (.k (.nl 2)))])) (.seq (.kp [0,1,2,7] (.ops [o 9 (.mv (.t 0)),o 10 (.mv (.t 1)),o 11 (.mv (.t 2)),o 12 (.call 110 [true,true,true] [.t 9, .t 10, .t 11]),o 7 (.mv (.t 12))])) (.seq (.kp [0,1,2,7,8] (.ops [o 13 (.mv (.t 0)),o 14 (.mv (.t 7)),o 15 (.len false (.t 14)),o 16 (.call 107 [true,false] [.t 13, .t 15]),o 8 (.mv (.t 16))])) (.seq (.seq (.kp [0,1,2,7,8,18] (.ops [o 17 (.mv (.t 0)),o 18 (.call 107 [true,false] [.t 17, .k (.i .i64 12)])])) (.blk 0 (.seq (.kp [0,1,2,7,8,18,19] (.ops [o 20 (.bin .eql 0 (.t 18) (.k (.i .i64 0))),o 19 (.mv (.t 20))])) (.cond (.t 19) (.kp [7] (.ops [o 21 (.mv (.t 7)),o 22 (.mv (.t 8)),o 23 (.mv (.t 0)),o 24 (.mv (.t 2)),o 25 (.len false (.t 24)),o 26 (.bin .add 0 (.t 25) (.k (.i .i64 1))),o 27 (.call 107 [true,false] [.t 23, .t 26]),o 28 (.iaddr 2 (.t 21) (.t 22)),o 29 (.faddr 1 (.t 28)),oz none none [] (.store 1 (.t 29) (.t 27))])) (.seq (.kp [0,1,7,8,18,30] (.ops [o 31 (.bin .eql 0 (.t 18) (.k (.i .i64 1))),o 30 (.mv (.t 31))])) (.cond (.t 30) (.kp [7] (.ops [o 32 (.mv (.t 7)),o 33 (.mv (.t 8)),o 34 (.mv (.t 0)),o 35 (.mv (.t 1)),o 36 (.len false (.t 35)),o 37 (.bin .add 0 (.t 36) (.k (.i .i64 2))),o 38 (.call 107 [true,false] [.t 34, .t 37]),o 39 (.bin .sub 0 (.t 38) (.k (.i .i64 1))),o 40 (.iaddr 2 (.t 32) (.t 33)),o 41 (.faddr 0 (.t 40)),oz none none [] (.store 1 (.t 41) (.t 39))])) (.seq (.kp [7,8,18,42] (.ops [o 43 (.bin .eql 0 (.t 18) (.k (.i .i64 2))),o 42 (.mv (.t 43))])) (.cond (.t 42) (.seq (.kp [6] (.ops [o 44 (.mv (.t 7)),o 45 (.slR 2 (.t 44) (some (.k (.i .i64 1))) none),o 6 (.mv (.t 45))])) C.ret) (.seq (.kp [7,8,46] (.ops [o 47 (.bin .eql 0 (.t 18) (.k (.i .i64 3))),o 46 (.mv (.t 47))])) (.cond (.t 46) (.kp [7] (.ops [o 48 (.mv (.t 7)),o 49 (.mv (.t 7)),o 50 (.mv (.t 8)),o 51 (.iaddr 2 (.t 49) (.t 50)),o 52 (.load (some 2) (.t 51)),o 53 (.lit 2 1 [.i .i64 0, .i .i64 0] [(0, .t 52)]),o 54 (.app 2 16 (.t 48) (.t 53)),o 7 (.mv (.t 54))])) C.skip)))))))))) (.seq (.kp [6] (.ops [o 55 (.mv (.t 7)),o 6 (.mv (.t 55))])) C.ret)))))
def Qbd.F:V.Fn:=⟨3,Qbd.B,[.t 6]⟩
def Qbb.B:C:=(.seq (.kp [0,4] (.ops [o 2 (.mv (.k (.nl 2))),o 3 (.mv (.k (.nl 2))),o 4 (.alloc [.deep false false 1 [], .deep false false 1 [], .deep false false 1 []]),o 5 (.mv (.k (.nl 2)))])) (.seq (.kp [0,4,6,7,8] (.ops [o 10 (.mv (.t 0)),o 11 (.call 73 [true,false] [.t 10, .k (.i .i64 8)]),o 9 (.mv (.t 11)),o 12 (.ext 0 (.t 9)),o 13 (.ext 1 (.t 9)),o 14 (.ext 2 (.t 9)),o 8 (.alloc [.deep false false 1 [], .deep false false 1 [], .deep false false 1 []]),o 6 (.mv (.t 12)),o 7 (.mv (.t 13)),oz none none [] (.store 3 (.t 8) (.t 14))])) (.seq (.kp [2,3,4,5] (.draw (tk [0,1,3,4,5] (.alt (tk [2,6,7,8,9,10] .done) (tk [6,2,7,8,9,10] .done))) [o 15 (.mv (.t 6)),o 16 (.mv (.t 7)),o 17 (.load (some 3) (.t 8)),o 18 (.mv (.t 0)),o 19 (.mv (.t 6)),o 20 (.mv (.t 7)),o 21 (.call 74 [true,true,true] [.t 18, .t 19, .t 20]),o 2 (.mv (.t 15)),o 3 (.mv (.t 16)),oz none none [17] (.store 3 (.t 4) (.t 17)),o 5 (.mv (.t 21))])) C.ret)))
def Qbb.F:V.Fn:=⟨1,Qbb.B,[.t 2, .t 3, .cell 4 (some 3), .t 5]⟩
def QaD.B:C:=(.seq (.kp [0,4] (.ops [o 2 (.mv (.k (.nl 2))),o 3 (.mv (.k (.nl 2))),o 4 (.alloc [.deep false false 1 [], .deep false false 1 [], .deep false false 1 []]),o 5 (.mv (.k (.nl 2)))])) (.seq (.kp [4,6,7,8,9] (.ops [o 11 (.mv (.t 0)),o 12 (.call 30 [false] [.t 11]),o 13 (.call 29 [true] [.t 12]),o 10 (.mv (.t 13)),o 14 (.ext 0 (.t 10)),o 15 (.ext 1 (.t 10)),o 16 (.ext 2 (.t 10)),o 17 (.ext 3 (.t 10)),o 8 (.alloc [.deep false false 1 [], .deep false false 1 [], .deep false false 1 []]),o 6 (.mv (.t 14)),o 7 (.mv (.t 15)),oz none none [] (.store 3 (.t 8) (.t 16)),o 9 (.mv (.t 17))])) (.seq (.kp [2,3,4,5] (.draw (sq 8) [o 18 (.mv (.t 6)),o 19 (.mv (.t 7)),o 20 (.load (some 3) (.t 8)),o 21 (.mv (.t 9)),o 2 (.mv (.t 18)),o 3 (.mv (.t 19)),oz none none [20] (.store 3 (.t 4) (.t 20)),o 5 (.mv (.t 21))])) C.ret)))
def QaD.F:V.Fn:=⟨1,QaD.B,[.t 2, .t 3, .cell 4 (some 3), .t 5]⟩
def Qaa.B:C:=(.seq (.kp [0,1,2] (.ops [o 6 (.mv (.k (.b false)))])) (.seq (.kp [6] (.ops [o 7 (.mv (.t 1)),o 8 (.mv (.t 0)),o 9 (.bin .leq 0 (.t 7) (.t 8)),o 10 (.mv (.t 9)),og 11 10 true (.mv (.t 0)),og 12 10 true (.mv (.t 2)),og 13 10 true (.bin .leq 0 (.t 11) (.t 12)),o 14 (.pick (.t 10) (.t 13) (.k (.b false))),o 6 (.mv (.t 14))])) C.ret))
def Qaa.F:V.Fn:=⟨0,Qaa.B,[.t 6]⟩
def Qar.B:C:=(.seq (.kp [0] (.ops [o 2 (.mv (.k (.b false)))])) (.seq (.kp [2] (.ops [o 3 (.mv (.t 0)),o 4 (.call 88 [false,false,false] [.t 3, .k (.i .i64 0), .k (.i .i64 5)]),o 2 (.mv (.t 4))])) C.ret))
def Qar.F:V.Fn:=⟨0,Qar.B,[.t 2]⟩
def Qa2.B:C:=(.seq (.kp [0,1] (.ops [o 4 (.mv (.k (.b false)))])) (.seq (.seq (.kp [0,1,6] (.ops [o 5 (.mv (.t 1)),o 6 (.bin .eql 0 (.t 5) (.k (.i .i64 0)))])) (.cond (.t 6) (.seq (.kp [4] (.ops [o 7 (.mv (.t 0)),o 8 (.iaddr 2 (.t 7) (.k (.i .i64 0))),o 9 (.faddr 1 (.t 8)),o 10 (.load none (.t 9)),o 11 (.bin .eql 0 (.t 10) (.k (.i .i64 0))),o 4 (.mv (.t 11))])) C.ret) C.skip)) (.seq (.kp [4] (.draw (sq 14) [o 12 (.mv (.t 0)),o 13 (.mv (.t 1)),o 14 (.iaddr 2 (.t 12) (.t 13)),o 15 (.faddr 1 (.t 14)),o 16 (.load none (.t 15)),o 17 (.mv (.t 0)),o 18 (.mv (.t 1)),o 19 (.bin .sub 0 (.t 18) (.k (.i .i64 1))),o 20 (.iaddr 2 (.t 17) (.t 19)),o 21 (.faddr 1 (.t 20)),o 22 (.load none (.t 21)),o 23 (.bin .add 0 (.t 22) (.k (.i .i64 1))),o 24 (.call 88 [false,false,false] [.t 16, .k (.i .i64 1), .t 23]),o 4 (.mv (.t 24))])) C.ret)))
def Qa2.F:V.Fn:=⟨1,Qa2.B,[.t 4]⟩
def QE.c0:C:=(.seq (.kp [2] (.ops [o 2 (.mv (.k (.b true)))])) C.ret)
def QE.d1:C:=(.seq (.kp [0,9,10,11,12] (.ops [o 12 (.bin .lss 0 (.t 11) (.t 10))])) (.seq (.cond (.t 12) C.skip (.exit 0)) (.seq (.blk 1 (.seq (.kp [0,3,4,9,10,11] (.ops [o 13 (.mv (.t 11)),o 14 (.iaddr 2 (.t 9) (.t 11)),o 15 (.load (some 2) (.t 14)),o 4 (.alloc [.i .i64 0, .i .i64 0]),o 3 (.mv (.t 13)),oz none none [] (.store 2 (.t 4) (.t 15))])) (.seq (.kp [0,9,10,11,31] (.ops [o 16 (.faddr 0 (.t 4)),o 17 (.load none (.t 16)),o 18 (.call 89 [false] [.t 17]),o 19 (.un .not (.t 18)),o 20 (.mv (.t 19)),og 21 20 false (.faddr 1 (.t 4)),og 22 20 false (.load none (.t 21)),og 23 20 false (.call 88 [false,false,false] [.t 22, .k (.i .i64 0), .k (.i .i64 12)]),og 24 20 false (.un .not (.t 23)),o 25 (.pick (.t 20) (.k (.b true)) (.t 24)),o 26 (.mv (.t 25)),og 27 26 false (.mv (.t 0)),og 28 26 false (.mv (.t 3)),og 29 26 false (.call 90 [false,false] [.t 27, .t 28]),og 30 26 false (.un .not (.t 29)),o 31 (.pick (.t 26) (.k (.b true)) (.t 30))])) (.cond (.t 31) (.seq (.kp [2] (.ops [o 2 (.mv (.k (.b false)))])) C.ret) C.skip)))) (.kp [0,9,10,11] (.ops [o 32 (.bin .add 0 (.t 11) (.k (.i .i64 1))),o 11 (.mv (.t 32))])))))
def QE.c1:C := .loop 1 [0,9,10,11] QE.d1
def QE.B:C:=(.seq (.kp [0] (.ops [o 2 (.mv (.k (.b false)))])) (.seq (.seq (.kp [0,8] (.ops [o 5 (.mv (.t 0)),o 6 (.len false (.t 5)),o 7 (.call 88 [false,false,false] [.t 6, .k (.i .i64 1), .k (.i .i64 24)]),o 8 (.un .not (.t 7))])) (.cond (.t 8) (.seq (.kp [2] (.ops [o 2 (.mv (.k (.b false)))])) C.ret) C.skip)) (.seq (.seq (.kp [0,9,10,11] (.ops [o 9 (.mv (.t 0)),o 10 (.len false (.t 9)),o 11 (.mv (.k (.i .i64 0)))])) (.blk 0 QE.c1)) QE.c0)))
def QE.F:V.Fn:=⟨1,QE.B,[.t 2]⟩
def Qal.B:C:=(.seq (.kp [0,1] (.ops [o 4 (.mv (.k (.b false)))])) (.seq (.kp [4] (.ops [o 5 (.mv (.t 0)),o 6 (.call 46 [false] [.t 5]),o 7 (.mv (.t 6)),og 8 7 true (.mv (.t 1)),og 9 7 true (.mv (.t 0)),og 10 7 true (.len false (.t 9)),og 11 7 true (.bin .sub 0 (.t 10) (.k (.i .i64 1))),og 12 7 true (.call 88 [false,false,false] [.t 8, .k (.i .i64 0), .t 11]),o 13 (.pick (.t 7) (.t 12) (.k (.b false))),o 4 (.mv (.t 13))])) C.ret))
def Qal.F:V.Fn:=⟨1,Qal.B,[.t 4]⟩
def QU.c0:C:=(.seq (.kp [4] (.ops [o 27 (.mv (.t 5)),o 4 (.mv (.t 27))])) C.ret)
def QU.d1:C:=(.seq (.seq (.kp [0,1,5,24] (.draw (sq 17) [o 8 (.mv (.t 5)),o 9 (.mv (.t 0)),o 10 (.len false (.t 9)),o 11 (.bin .lss 0 (.t 8) (.t 10)),o 12 (.mv (.t 11)),og 13 12 true (.mv (.t 0)),og 14 12 true (.mv (.t 5)),og 15 12 true (.iaddr 2 (.t 13) (.t 14)),og 16 12 true (.faddr 1 (.t 15)),og 17 12 true (.load none (.t 16)),og 18 12 true (.mv (.t 0)),og 19 12 true (.mv (.t 1)),og 20 12 true (.iaddr 2 (.t 18) (.t 19)),og 21 12 true (.faddr 1 (.t 20)),og 22 12 true (.load none (.t 21)),og 23 12 true (.bin .gtr 0 (.t 17) (.t 22)),o 24 (.pick (.t 12) (.t 23) (.k (.b false)))])) (.cond (.t 24) C.skip (.exit 0))) (.blk 1 (.kp [0,1,5] (.ops [o 25 (.mv (.t 5)),o 26 (.bin .add 0 (.t 25) (.k (.i .i64 1))),o 5 (.mv (.t 26))]))))
def QU.c1:C := .loop 1 [0,1,5] QU.d1
def QU.B:C:=(.seq (.kp [0,1] (.ops [o 4 (.mv (.k (.i .i64 0)))])) (.seq (.kp [0,1,5] (.ops [o 6 (.mv (.t 1)),o 7 (.bin .add 0 (.t 6) (.k (.i .i64 1))),o 5 (.mv (.t 7))])) (.seq (.blk 0 QU.c1) QU.c0)))
def QU.F:V.Fn:=⟨1,QU.B,[.t 4]⟩
def Qt.c0:C:=(.seq (.kp [6] (.ops [o 6 (.mv (.k (.b true)))])) C.ret)
def Qt.d3:C:=(.seq (.kp [0,1,2,8,19,20,21,66,67,68,69] (.ops [o 69 (.bin .lss 0 (.t 68) (.t 67))])) (.seq (.cond (.t 69) C.skip (.exit 2)) (.seq (.blk 3 (.seq (.kp [0,1,2,8,10,19,20,21,66,67,68] (.ops [o 70 (.iaddr 2 (.t 66) (.t 68)),o 71 (.load (some 2) (.t 70)),o 10 (.alloc [.i .i64 0, .i .i64 0]),oz none none [] (.store 2 (.t 10) (.t 71))])) (.seq (.kp [0,1,2,8,19,20,21,66,67,68,86] (.draw (tk [0,2,3,4,7,9,10] (.alt (tk [1] (.alt (tk [5,6,11] (.alt (tk [8,12,13,14] .done) (tk [12,8,13,14] .done))) (tk [] (.alt (tk [8] (.alt (tk [5,6,11,12,13,14] .done) (tk [11,5,6,12,13,14] .done))) (tk [11] (.alt (tk [5,6] (.alt (tk [8,12,13,14] .done) (tk [12,8,13,14] .done))) (tk [8,5,6,12,13,14] .done))))))) (tk [] (.alt (tk [5,11] (.alt (tk [1,6] (.alt (tk [8,12,13,14] .done) (tk [12,8,13,14] .done))) (tk [] (.alt (tk [8] (.alt (tk [1,6,12,13,14] .done) (tk [12,1,6,13,14] .done))) (tk [12,1,6,8,13,14] .done))))) (tk [] (.alt (tk [8] (.alt (tk [1] (.alt (tk [5,6,11,12,13,14] .done) (tk [11,5,6,12,13,14] .done))) (tk [] (.alt (tk [5,11] (.alt (tk [1,6,12,13,14] .done) (tk [12,1,6,13,14] .done))) (tk [11] (.alt (tk [1,5,6,12,13,14] .done) (tk [5] (.alt (tk [1,6,12,13,14] .done) (tk [12,1,6,13,14] .done))))))))) (tk [11] (.alt (tk [1] (.alt (tk [5,6] (.alt (tk [8,12,13,14] .done) (tk [12,8,13,14] .done))) (tk [8,5,6,12,13,14] .done))) (tk [] (.alt (tk [5] (.alt (tk [1,6] (.alt (tk [8,12,13,14] .done) (tk [12,8,13,14] .done))) (tk [] (.alt (tk [8] (.alt (tk [1,6,12,13,14] .done) (tk [12,1,6,13,14] .done))) (tk [12,1,6,8,13,14] .done))))) (tk [8] (.alt (tk [1,5,6,12,13,14] .done) (tk [5] (.alt (tk [1,6,12,13,14] .done) (tk [12,1,6,13,14] .done))))))))))))))) [o 72 (.faddr 0 (.t 8)),o 73 (.load none (.t 72)),o 74 (.mv (.t 0)),o 75 (.faddr 0 (.t 10)),o 76 (.load none (.t 75)),o 77 (.call 76 [false,false] [.t 74, .t 76]),o 78 (.bin .lss 0 (.t 73) (.t 77)),o 79 (.faddr 1 (.t 8)),o 80 (.load none (.t 79)),o 81 (.mv (.t 1)),o 82 (.faddr 1 (.t 10)),o 83 (.load none (.t 82)),o 84 (.call 76 [false,false] [.t 81, .t 83]),o 85 (.bin .lss 0 (.t 80) (.t 84)),o 86 (.bin .neq 1 (.t 78) (.t 85))])) (.cond (.t 86) (.seq (.kp [6] (.ops [o 6 (.mv (.k (.b false)))])) C.ret) C.skip)))) (.kp [0,1,2,8,19,20,21,66,67,68] (.ops [o 87 (.bin .add 0 (.t 68) (.k (.i .i64 1))),o 68 (.mv (.t 87))])))))
def Qt.c3:C := .loop 3 [0,1,2,8,19,20,21,66,67,68] Qt.d3
def Qt.c2:C:=(.kp [0,1,2,19,20,21] (.ops [o 88 (.bin .add 0 (.t 21) (.k (.i .i64 1))),o 21 (.mv (.t 88))]))
def Qt.d1:C:=(.seq (.kp [0,1,2,19,20,21,22] (.ops [o 22 (.bin .lss 0 (.t 21) (.t 20))])) (.seq (.cond (.t 22) C.skip (.exit 0)) (.seq (.blk 1 (.seq (.kp [0,1,2,7,8,19,20,21] (.ops [o 23 (.mv (.t 21)),o 24 (.iaddr 2 (.t 19) (.t 21)),o 25 (.load (some 2) (.t 24)),o 8 (.alloc [.i .i64 0, .i .i64 0]),o 7 (.mv (.t 23)),oz none none [] (.store 2 (.t 8) (.t 25))])) (.seq (.seq (.kp [0,1,2,7,8,19,20,21,63] (.draw (sq 38) [o 26 (.mv (.t 0)),o 27 (.faddr 0 (.t 8)),o 28 (.load none (.t 27)),o 29 (.call 75 [false,false] [.t 26, .t 28]),o 30 (.un .not (.t 29)),o 31 (.mv (.t 30)),og 32 31 false (.mv (.t 1)),og 33 31 false (.faddr 1 (.t 8)),og 34 31 false (.load none (.t 33)),og 35 31 false (.call 75 [false,false] [.t 32, .t 34]),og 36 31 false (.un .not (.t 35)),o 37 (.pick (.t 31) (.k (.b true)) (.t 36)),o 38 (.mv (.t 37)),og 39 38 false (.mv (.t 7)),og 40 38 false (.bin .gtr 0 (.t 39) (.k (.i .i64 0))),og 41 38 false (.mv (.t 40)),og 42 41 true (.faddr 0 (.t 8)),og 43 41 true (.load none (.t 42)),og 44 41 true (.mv (.t 2)),og 45 41 true (.mv (.t 7)),og 46 41 true (.bin .sub 0 (.t 45) (.k (.i .i64 1))),og 47 41 true (.iaddr 2 (.t 44) (.t 46)),og 48 41 true (.faddr 0 (.t 47)),og 49 41 true (.load none (.t 48)),og 50 41 true (.bin .leq 0 (.t 43) (.t 49)),og 51 41 true (.mv (.t 50)),og 52 51 false (.faddr 1 (.t 8)),og 53 51 false (.load none (.t 52)),og 54 51 false (.mv (.t 2)),og 55 51 false (.mv (.t 7)),og 56 51 false (.bin .sub 0 (.t 55) (.k (.i .i64 1))),og 57 51 false (.iaddr 2 (.t 54) (.t 56)),og 58 51 false (.faddr 1 (.t 57)),og 59 51 false (.load none (.t 58)),og 60 51 false (.bin .leq 0 (.t 53) (.t 59)),og 61 41 true (.pick (.t 51) (.k (.b true)) (.t 60)),og 62 38 false (.pick (.t 41) (.t 61) (.k (.b false))),o 63 (.pick (.t 38) (.k (.b true)) (.t 62))])) (.cond (.t 63) (.seq (.kp [6] (.ops [o 6 (.mv (.k (.b false)))])) C.ret) C.skip)) (.seq (.kp [0,1,2,8,19,20,21,66,67,68] (.ops [o 64 (.mv (.t 2)),o 65 (.mv (.t 7)),o 66 (.slR 2 (.t 64) none (some (.t 65))),o 67 (.len false (.t 66)),o 68 (.mv (.k (.i .i64 0)))])) (.blk 2 Qt.c3))))) Qt.c2)))
def Qt.c1:C := .loop 3 [0,1,2,19,20,21] Qt.d1
def Qt.B:C:=(.seq (.kp [0,1,2] (.ops [o 6 (.mv (.k (.b false)))])) (.seq (.seq (.kp [0,1,2,18] (.ops [o 11 (.mv (.t 0)),o 12 (.call 46 [false] [.t 11]),o 13 (.un .not (.t 12)),o 14 (.mv (.t 13)),og 15 14 false (.mv (.t 1)),og 16 14 false (.call 46 [false] [.t 15]),og 17 14 false (.un .not (.t 16)),o 18 (.pick (.t 14) (.k (.b true)) (.t 17))])) (.cond (.t 18) (.seq (.kp [6] (.ops [o 6 (.mv (.k (.b false)))])) C.ret) C.skip)) (.seq (.seq (.kp [0,1,2,19,20,21] (.ops [o 19 (.mv (.t 2)),o 20 (.len false (.t 19)),o 21 (.mv (.k (.i .i64 0)))])) (.blk 0 Qt.c1)) Qt.c0)))
def Qt.F:V.Fn:=⟨3,Qt.B,[.t 6]⟩
def QaE.B:C:=(.seq (.kp [0] (.ops [o 2 (.mv (.k (.b false)))])) (.seq (.kp [2] (.ops [o 3 (.mv (.t 0)),o 4 (.len false (.t 3)),o 5 (.bin .gtr 0 (.t 4) (.k (.i .i64 0))),o 6 (.mv (.t 5)),og 7 6 true (.mv (.t 0)),og 8 6 true (.iaddr 2 (.t 7) (.k (.i .i64 0))),og 9 6 true (.load (some 2) (.t 8)),og 10 6 true (.build [.i .i64 0, .i .i64 0] []),og 11 6 true (.eqA false [0,0] (.t 9) (.t 10)),o 12 (.pick (.t 6) (.t 11) (.k (.b false))),o 2 (.mv (.t 12))])) C.ret))
def QaE.F:V.Fn:=⟨1,QaE.B,[.t 2]⟩
def Qz.B:C:=(.seq (.kp [0] (.ops [o 2 (.mv (.k (.nl 2)))])) (.seq (.seq (.kp [0,4] (.ops [o 3 (.mv (.t 0)),o 4 (.bin .eql 2 (.t 3) (.k (.nl 2)))])) (.cond (.t 4) (.seq (.kp [2] (.ops [o 2 (.mv (.k (.nl 2)))])) C.ret) C.skip)) (.seq (.kp [2] (.ops [o 5 (.lit 2 0 [.i .i64 0, .i .i64 0] []),o 6 (.mv (.t 0)),o 7 (.app 2 16 (.t 5) (.t 6)),o 2 (.mv (.t 7))])) C.ret)))
def Qz.F:V.Fn:=⟨1,Qz.B,[.t 2]⟩
def Qq.c0:C:=(.seq (.kp [4] (.ops [o 4 (.mv (.k (.i .i64 (-1))))])) C.ret)
def Qq.d1:C:=(.seq (.kp [0,1,7,8,9] (.ops [o 9 (.bin .lss 0 (.t 8) (.t 7))])) (.seq (.cond (.t 9) C.skip (.exit 0)) (.seq (.blk 1 (.seq (.kp [0,1,5,7,8] (.ops [o 10 (.mv (.t 8)),o 5 (.mv (.t 10))])) (.seq (.kp [0,1,5,7,8,16] (.ops [o 11 (.mv (.t 1)),o 12 (.mv (.t 0)),o 13 (.mv (.t 5)),o 14 (.iaddr 1 (.t 12) (.t 13)),o 15 (.load none (.t 14)),o 16 (.bin .eql 0 (.t 11) (.t 15))])) (.cond (.t 16) (.seq (.kp [4] (.ops [o 17 (.mv (.t 5)),o 4 (.mv (.t 17))])) C.ret) C.skip)))) (.kp [0,1,7,8] (.ops [o 18 (.bin .add 0 (.t 8) (.k (.i .i64 1))),o 8 (.mv (.t 18))])))))
def Qq.c1:C := .loop 1 [0,1,7,8] Qq.d1
def Qq.B:C:=(.seq (.kp [0,1] (.ops [o 4 (.mv (.k (.i .i64 0)))])) (.seq (.seq (.kp [0,1,7,8] (.ops [o 6 (.mv (.t 0)),o 7 (.len false (.t 6)),o 8 (.mv (.k (.i .i64 0)))])) (.blk 0 Qq.c1)) Qq.c0))
def Qq.F:V.Fn:=⟨1,Qq.B,[.t 4]⟩
def QF.c0:C:=(.seq (.kp [4] (.ops [o 29 (.mv (.t 5)),o 4 (.mv (.t 29))])) C.ret)
def QF.d1:C:=(.seq (.seq (.kp [0,1,5,26] (.draw (sq 15) [o 12 (.mv (.t 5)),o 13 (.bin .geq 0 (.t 12) (.k (.i .i64 0))),o 14 (.mv (.t 13)),og 15 14 true (.mv (.t 0)),og 16 14 true (.mv (.t 5)),og 17 14 true (.iaddr 2 (.t 15) (.t 16)),og 18 14 true (.faddr 1 (.t 17)),og 19 14 true (.load none (.t 18)),og 20 14 true (.mv (.t 0)),og 21 14 true (.mv (.t 1)),og 22 14 true (.iaddr 2 (.t 20) (.t 21)),og 23 14 true (.faddr 1 (.t 22)),og 24 14 true (.load none (.t 23)),og 25 14 true (.bin .geq 0 (.t 19) (.t 24)),o 26 (.pick (.t 14) (.t 25) (.k (.b false)))])) (.cond (.t 26) C.skip (.exit 0))) (.blk 1 (.kp [0,1,5] (.ops [o 27 (.mv (.t 5)),o 28 (.bin .sub 0 (.t 27) (.k (.i .i64 1))),o 5 (.mv (.t 28))]))))
def QF.c1:C := .loop 1 [0,1,5] QF.d1
def QF.B:C:=(.seq (.kp [0,1] (.ops [o 4 (.mv (.k (.i .i64 0)))])) (.seq (.seq (.kp [0,1,9] (.ops [o 6 (.mv (.t 0)),o 7 (.mv (.t 1)),o 8 (.call 75 [false,false] [.t 6, .t 7]),o 9 (.un .not (.t 8))])) (.cond (.t 9) (.seq (.kp [4] (.ops [o 4 (.mv (.k (.i .i64 (-1))))])) C.ret) C.skip)) (.seq (.kp [0,1,5] (.ops [o 10 (.mv (.t 1)),o 11 (.bin .sub 0 (.t 10) (.k (.i .i64 1))),o 5 (.mv (.t 11))])) (.seq (.blk 0 QF.c1) QF.c0))))
def QF.F:V.Fn:=⟨1,QF.B,[.t 4]⟩
def QS.c0:C:=(.seq (.kp [4] (.ops [o 38 (.mv (.t 5)),o 4 (.mv (.t 38))])) C.ret)
def QS.d1:C:=(.seq (.seq (.kp [0,1,5,6,19] (.ops [o 15 (.mv (.t 6)),o 16 (.mv (.t 0)),o 17 (.mv (.t 1)),o 18 (.call 76 [false,false] [.t 16, .t 17]),o 19 (.bin .lss 0 (.t 15) (.t 18))])) (.cond (.t 19) C.skip (.exit 0))) (.seq (.blk 1 (.seq (.kp [0,1,5,6,33] (.draw (sq 12) [o 22 (.mv (.t 0)),o 23 (.mv (.t 6)),o 24 (.iaddr 2 (.t 22) (.t 23)),o 25 (.faddr 1 (.t 24)),o 26 (.load none (.t 25)),o 27 (.mv (.t 0)),o 28 (.mv (.t 1)),o 29 (.iaddr 2 (.t 27) (.t 28)),o 30 (.faddr 1 (.t 29)),o 31 (.load none (.t 30)),o 32 (.bin .add 0 (.t 31) (.k (.i .i64 1))),o 33 (.bin .eql 0 (.t 26) (.t 32))])) (.cond (.t 33) (.kp [0,1,5,6] (.ops [o 34 (.mv (.t 5)),o 35 (.mv (.t 6)),o 36 (.lit 1 1 [.i .i64 0] [(0, .t 35)]),o 37 (.app 1 8 (.t 34) (.t 36)),o 5 (.mv (.t 37))])) C.skip))) (.kp [0,1,5,6] (.ops [o 20 (.mv (.t 6)),o 21 (.bin .add 0 (.t 20) (.k (.i .i64 1))),o 6 (.mv (.t 21))]))))
def QS.c1:C := .loop 1 [0,1,5,6] QS.d1
def QS.B:C:=(.seq (.kp [0,1] (.ops [o 4 (.mv (.k (.nl 1)))])) (.seq (.kp [0,1,5] (.ops [o 7 (.lit 1 0 [.i .i64 0] []),o 5 (.mv (.t 7))])) (.seq (.seq (.kp [0,1,5,11] (.ops [o 8 (.mv (.t 0)),o 9 (.mv (.t 1)),o 10 (.call 75 [false,false] [.t 8, .t 9]),o 11 (.un .not (.t 10))])) (.cond (.t 11) (.seq (.kp [4] (.ops [o 12 (.mv (.t 5)),o 4 (.mv (.t 12))])) C.ret) C.skip)) (.seq (.seq (.kp [0,1,5,6] (.ops [o 13 (.mv (.t 1)),o 14 (.bin .add 0 (.t 13) (.k (.i .i64 1))),o 6 (.mv (.t 14))])) (.blk 0 QS.c1)) QS.c0))))
def QS.F:V.Fn:=⟨1,QS.B,[.t 4]⟩
def Qa4.B:C:=(.seq (.kp [0,1] (.ops [o 4 (.mv (.k (.i .i64 0)))])) (.seq (.kp [4] (.ops [o 5 (.mv (.t 0)),o 6 (.mv (.t 0)),o 7 (.mv (.t 1)),o 8 (.call 39 [false,false] [.t 6, .t 7]),o 9 (.call 40 [false,false] [.t 5, .t 8]),o 10 (.mv (.t 1)),o 11 (.call 41 [false,false] [.t 9, .t 10]),o 4 (.mv (.t 11))])) C.ret))
def Qa4.F:V.Fn:=⟨1,Qa4.B,[.t 4]⟩
def Qw.d0:C:=(.seq (.seq (.kp [0,2,3,9] (.ops [o 7 (.mv (.t 2)),o 8 (.mv (.t 3)),o 9 (.bin .lss 0 (.t 7) (.t 8))])) (.cond (.t 9) C.skip (.exit 0))) (.seq (.blk 1 (.kp [0,2,3] (.draw (sq 16) [o 14 (.mv (.t 0)),o 15 (.mv (.t 2)),o 16 (.mv (.t 0)),o 17 (.mv (.t 3)),o 18 (.mv (.t 0)),o 19 (.mv (.t 3)),o 20 (.iaddr 1 (.t 18) (.t 19)),o 21 (.load none (.t 20)),o 22 (.mv (.t 0)),o 23 (.mv (.t 2)),o 24 (.iaddr 1 (.t 22) (.t 23)),o 25 (.load none (.t 24)),o 26 (.iaddr 1 (.t 14) (.t 15)),oz none none [] (.store 1 (.t 26) (.t 21)),o 27 (.iaddr 1 (.t 16) (.t 17)),oz none none [] (.store 1 (.t 27) (.t 25))]))) (.kp [0,2,3] (.ops [o 10 (.mv (.t 2)),o 11 (.bin .add 0 (.t 10) (.k (.i .i64 1))),o 12 (.mv (.t 3)),o 13 (.bin .sub 0 (.t 12) (.k (.i .i64 1))),o 2 (.mv (.t 11)),o 3 (.mv (.t 13))]))))
def Qw.c0:C := .loop 1 [0,2,3] Qw.d0
def Qw.B:C:=(.seq (.kp [0,2,3] (.ops [o 4 (.mv (.t 0)),o 5 (.len false (.t 4)),o 6 (.bin .sub 0 (.t 5) (.k (.i .i64 1))),o 2 (.mv (.k (.i .i64 0))),o 3 (.mv (.t 6))])) (.blk 0 Qw.c0))
def Qw.F:V.Fn:=⟨1,Qw.B,[]⟩
def Q3.c0:C:=(.seq (.kp [5] (.ops [o 23 (.mv (.t 5)),o 24 (.call 112 [true] [.t 23])])) (.seq (.kp [4] (.ops [o 25 (.mv (.t 5)),o 4 (.mv (.t 25))])) C.ret))
def Q3.d1:C:=(.seq (.seq (.kp [0,1,5,13] (.ops [o 7 (.mv (.t 0)),o 8 (.mv (.t 1)),o 9 (.call 75 [false,false] [.t 7, .t 8]),o 10 (.mv (.t 9)),og 11 10 true (.mv (.t 1)),og 12 10 true (.bin .gtr 0 (.t 11) (.k (.i .i64 0))),o 13 (.pick (.t 10) (.t 12) (.k (.b false)))])) (.cond (.t 13) C.skip (.exit 0))) (.seq (.blk 1 (.kp [0,1,5] (.ops [o 17 (.mv (.t 5)),o 18 (.mv (.t 0)),o 19 (.mv (.t 1)),o 20 (.call 111 [false,false] [.t 18, .t 19]),o 21 (.lit 1 1 [.i .i64 0] [(0, .t 20)]),o 22 (.app 1 8 (.t 17) (.t 21)),o 5 (.mv (.t 22))]))) (.kp [0,1,5] (.ops [o 14 (.mv (.t 0)),o 15 (.mv (.t 1)),o 16 (.call 39 [false,false] [.t 14, .t 15]),o 1 (.mv (.t 16))]))))
def Q3.c1:C := .loop 1 [0,1,5] Q3.d1
def Q3.B:C:=(.seq (.kp [0,1] (.ops [o 4 (.mv (.k (.nl 1)))])) (.seq (.kp [0,1,5] (.ops [o 6 (.lit 1 0 [.i .i64 0] []),o 5 (.mv (.t 6))])) (.seq (.blk 0 Q3.c1) Q3.c0)))
def Q3.F:V.Fn:=⟨1,Q3.B,[.t 4]⟩
def QA.c0:C:=(.seq (.blk 3 (.seq (.kp [7,8,11,104] (.ops [o 105 (.mv (.t 0)),o 106 (.len false (.t 105)),o 107 (.bin .eql 0 (.t 106) (.k (.i .i64 24))),o 104 (.mv (.t 107))])) (.cond (.t 104) (.seq (.kp [6,7,8] (.ops [o 6 (.mv (.k (.i .i64 6))),o 7 (.mv (.k (.i .i64 0))),o 8 (.mv (.k (.i .i64 0)))])) C.ret) (.seq (.kp [7,8,108] (.ops [o 109 (.mv (.t 11)),o 110 (.bin .gtr 0 (.t 109) (.k (.i .i64 12))),o 108 (.mv (.t 110))])) (.cond (.t 108) (.seq (.kp [6,7,8] (.ops [o 6 (.mv (.k (.i .i64 7))),o 7 (.mv (.k (.i .i64 0))),o 8 (.mv (.k (.i .i64 0)))])) C.ret) C.skip))))) (.seq (.kp [6,7,8] (.ops [o 111 (.mv (.t 7)),o 112 (.mv (.t 8)),o 6 (.mv (.k (.i .i64 0))),o 7 (.mv (.t 111)),o 8 (.mv (.t 112))])) C.ret))
def QA.d1:C:=(.seq (.kp [0,7,8,11,92,93,94,95] (.ops [o 95 (.bin .lss 0 (.t 94) (.t 93))])) (.seq (.cond (.t 95) C.skip (.exit 1)) (.seq (.blk 2 (.seq (.kp [0,7,8,11,13,92,93,94] (.ops [o 96 (.iaddr 2 (.t 92) (.t 94)),o 97 (.load (some 2) (.t 96)),o 13 (.alloc [.i .i64 0, .i .i64 0]),oz none none [] (.store 2 (.t 13) (.t 97))])) (.kp [0,7,8,11,92,93,94] (.ops [o 98 (.mv (.t 11)),o 99 (.faddr 1 (.t 13)),o 100 (.load none (.t 99)),o 101 (.bin .add 0 (.t 100) (.k (.i .i64 1))),o 102 (.mm true [.t 98, .t 101]),o 11 (.mv (.t 102))])))) (.kp [0,7,8,11,92,93,94] (.ops [o 103 (.bin .add 0 (.t 94) (.k (.i .i64 1))),o 94 (.mv (.t 103))])))))
def QA.c1:C := .loop 2 [0,7,8,11,92,93,94] QA.d1
def QA.B:C:=(.seq (.kp [0,2,4] (.ops [o 4 (.boxK (.t 1)),o 6 (.mv (.k (.i .i64 0))),o 7 (.mv (.k (.i .i64 0))),o 8 (.mv (.k (.i .i64 0)))])) (.seq (.blk 0 (.seq (.kp [0,2,4,14] (.ops [o 15 (.faddr 0 (.t 4)),o 16 (.load none (.t 15)),o 17 (.call 88 [false,false,false] [.t 16, .k (.i .i64 1), .k (.i .i64 3)]),o 18 (.un .not (.t 17)),o 14 (.mv (.t 18))])) (.cond (.t 14) (.seq (.kp [6,7,8] (.ops [o 6 (.mv (.k (.i .i64 1))),o 7 (.mv (.k (.i .i64 0))),o 8 (.mv (.k (.i .i64 0)))])) C.ret) (.seq (.kp [0,2,4,19] (.ops [o 20 (.mv (.t 2)),o 21 (.bin .lss 0 (.t 20) (.k (.i .i64 0))),o 19 (.mv (.t 21))])) (.cond (.t 19) (.seq (.kp [6,7,8] (.ops [o 6 (.mv (.k (.i .i64 2))),o 7 (.mv (.k (.i .i64 0))),o 8 (.mv (.k (.i .i64 0)))])) C.ret) (.seq (.kp [0,2,4,22] (.ops [o 23 (.faddr 0 (.t 4)),o 24 (.load none (.t 23)),o 25 (.bin .neq 0 (.t 24) (.k (.i .i64 2))),o 26 (.mv (.t 25)),og 27 26 true (.faddr 2 (.t 4)),og 28 26 true (.load none (.t 27)),og 29 26 true (.call 89 [false] [.t 28]),og 30 26 true (.un .not (.t 29)),o 31 (.pick (.t 26) (.t 30) (.k (.b false))),o 22 (.mv (.t 31))])) (.cond (.t 22) (.seq (.kp [6,7,8] (.ops [o 6 (.mv (.k (.i .i64 3))),o 7 (.mv (.k (.i .i64 0))),o 8 (.mv (.k (.i .i64 0)))])) C.ret) (.seq (.kp [0,2,4,32] (.ops [o 33 (.faddr 0 (.t 4)),o 34 (.load none (.t 33)),o 35 (.bin .eql 0 (.t 34) (.k (.i .i64 2))),o 36 (.mv (.t 35)),og 37 36 true (.mv (.t 2)),og 38 36 true (.bin .eql 0 (.t 37) (.k (.i .i64 0))),o 39 (.pick (.t 36) (.t 38) (.k (.b false))),o 32 (.mv (.t 39))])) (.cond (.t 32) (.seq (.kp [6,7,8] (.ops [o 6 (.mv (.k (.i .i64 4))),o 7 (.mv (.k (.i .i64 0))),o 8 (.mv (.k (.i .i64 0)))])) C.ret) (.seq (.kp [0,2,4,40] (.ops [o 41 (.faddr 0 (.t 4)),o 42 (.load none (.t 41)),o 43 (.bin .neq 0 (.t 42) (.k (.i .i64 3))),o 40 (.mv (.t 43))])) (.cond (.t 40) (.seq (.kp [6,7,8] (.ops [o 6 (.mv (.k (.i .i64 0))),o 7 (.mv (.k (.i .i64 0))),o 8 (.mv (.k (.i .i64 0)))])) C.ret) C.skip))))))))))) (.seq (.kp [0,2,4,9] (.ops [o 44 (.mv (.t 0)),o 45 (.mv (.t 2)),o 46 (.call 40 [false,false] [.t 44, .t 45]),o 9 (.mv (.t 46))])) (.seq (.seq (.kp [0,2,4,9,63] (.ops [o 47 (.faddr 3 (.t 4)),o 48 (.load none (.t 47)),o 49 (.mv (.t 9)),o 50 (.len false (.t 49)),o 51 (.call 88 [false,false,false] [.t 48, .k (.i .i64 0), .t 50]),o 52 (.un .not (.t 51)),o 53 (.mv (.t 52)),og 54 53 false (.faddr 4 (.t 4)),og 55 53 false (.load none (.t 54)),og 56 53 false (.mv (.t 9)),og 57 53 false (.len false (.t 56)),og 58 53 false (.faddr 3 (.t 4)),og 59 53 false (.load none (.t 58)),og 60 53 false (.bin .sub 0 (.t 57) (.t 59)),og 61 53 false (.call 88 [false,false,false] [.t 55, .k (.i .i64 0), .t 60]),og 62 53 false (.un .not (.t 61)),o 63 (.pick (.t 53) (.k (.b true)) (.t 62))])) (.cond (.t 63) (.seq (.kp [6,7,8] (.ops [o 6 (.mv (.k (.i .i64 5))),o 7 (.mv (.k (.i .i64 0))),o 8 (.mv (.k (.i .i64 0)))])) C.ret) C.skip)) (.seq (.kp [0,2,4,10] (.ops [o 64 (.mv (.t 9)),o 65 (.mv (.t 0)),o 66 (.mv (.t 2)),o 67 (.call 76 [false,false] [.t 65, .t 66]),o 68 (.lit 1 1 [.i .i64 0] [(0, .t 67)]),o 69 (.app 1 8 (.t 64) (.t 68)),o 10 (.mv (.t 69))])) (.seq (.kp [0,2,7,8] (.draw (sq 15) [o 70 (.mv (.t 10)),o 71 (.faddr 3 (.t 4)),o 72 (.load none (.t 71)),o 73 (.iaddr 1 (.t 70) (.t 72)),o 74 (.load none (.t 73)),o 75 (.mv (.t 10)),o 76 (.faddr 3 (.t 4)),o 77 (.load none (.t 76)),o 78 (.faddr 4 (.t 4)),o 79 (.load none (.t 78)),o 80 (.bin .add 0 (.t 77) (.t 79)),o 81 (.iaddr 1 (.t 75) (.t 80)),o 82 (.load none (.t 81)),o 7 (.mv (.t 74)),o 8 (.mv (.t 82))])) (.seq (.kp [0,7,8,11] (.ops [o 83 (.mv (.t 0)),o 84 (.mv (.t 2)),o 85 (.iaddr 2 (.t 83) (.t 84)),o 86 (.faddr 1 (.t 85)),o 87 (.load none (.t 86)),o 88 (.bin .add 0 (.t 87) (.k (.i .i64 1))),o 11 (.mv (.t 88))])) (.seq (.seq (.kp [0,7,8,11,92,93,94] (.ops [o 89 (.mv (.t 0)),o 90 (.mv (.t 7)),o 91 (.mv (.t 8)),o 92 (.slR 2 (.t 89) (some (.t 90)) (some (.t 91))),o 93 (.len false (.t 92)),o 94 (.mv (.k (.i .i64 0)))])) (.blk 1 QA.c1)) QA.c0))))))))
def QA.F:V.Fn:=⟨2,QA.B,[.t 6, .t 7, .t 8]⟩
def QY.c0:C:=(.seq (.kp [4] (.ops [o 32 (.mv (.t 5)),o 4 (.mv (.t 32))])) C.ret)
def QY.d1:C:=(.seq (.kp [0,5,12,13,14,15] (.ops [o 15 (.bin .lss 0 (.t 14) (.t 13))])) (.seq (.cond (.t 15) C.skip (.exit 0)) (.seq (.blk 1 (.seq (.kp [0,5,7,12,13,14] (.ops [o 16 (.iaddr 1 (.t 12) (.t 14)),o 17 (.load none (.t 16)),o 7 (.mv (.t 17))])) (.seq (.kp [0,7,8,12,13,14] (.ops [o 18 (.mv (.t 0)),o 19 (.mv (.t 5)),o 20 (.call 40 [false,false] [.t 18, .t 19]),o 8 (.mv (.t 20))])) (.seq (.seq (.kp [0,7,8,12,13,14,26] (.ops [o 21 (.mv (.t 7)),o 22 (.mv (.t 8)),o 23 (.len false (.t 22)),o 24 (.bin .sub 0 (.t 23) (.k (.i .i64 1))),o 25 (.call 88 [false,false,false] [.t 21, .k (.i .i64 0), .t 24]),o 26 (.un .not (.t 25))])) (.cond (.t 26) (.seq (.kp [4] (.ops [o 4 (.mv (.k (.i .i64 (-1))))])) C.ret) C.skip)) (.kp [0,5,12,13,14] (.ops [o 27 (.mv (.t 8)),o 28 (.mv (.t 7)),o 29 (.iaddr 1 (.t 27) (.t 28)),o 30 (.load none (.t 29)),o 5 (.mv (.t 30))])))))) (.kp [0,5,12,13,14] (.ops [o 31 (.bin .add 0 (.t 14) (.k (.i .i64 1))),o 14 (.mv (.t 31))])))))
def QY.c1:C := .loop 2 [0,5,12,13,14] QY.d1
def QY.B:C:=(.seq (.kp [0,1] (.ops [o 4 (.mv (.k (.i .i64 0)))])) (.seq (.seq (.kp [0,1,11] (.ops [o 9 (.mv (.t 0)),o 10 (.call 46 [false] [.t 9]),o 11 (.un .not (.t 10))])) (.cond (.t 11) (.seq (.kp [4] (.ops [o 4 (.mv (.k (.i .i64 (-1))))])) C.ret) C.skip)) (.seq (.kp [0,1,5] (.ops [o 5 (.mv (.k (.i .i64 0)))])) (.seq (.seq (.kp [0,5,12,13,14] (.ops [o 12 (.mv (.t 1)),o 13 (.len false (.t 12)),o 14 (.mv (.k (.i .i64 0)))])) (.blk 0 QY.c1)) QY.c0))))
def QY.F:V.Fn:=⟨2,QY.B,[.t 4]⟩
def Qag.F:V.Fn:=Qyq 2 16 [.i .i64 0, .i .i64 0]
def Qaf.F:V.Fn:=Qyf 2 16 [.i .i64 0, .i .i64 0] 118
def Qo.c0:C:=(.seq (.kp [4,5] (.ops [o 96 (.mv (.t 6)),o 4 (.mv (.t 96)),o 5 (.mv (.k (.i .i64 0)))])) C.ret)
def Qo.c1:C:=(.kp [6] (.ops [o 91 (.mv (.t 6)),o 92 (.mv (.t 7)),o 93 (.mv (.t 7)),o 94 (.bin .add 0 (.t 93) (.k (.i .i64 1))),o 95 (.call 91 [true,false,false] [.t 91, .t 92, .t 94]),o 6 (.mv (.t 95))]))
def Qo.d2:C:=(.seq (.seq (.kp [0,6,7,11,80] (.ops [o 76 (.mv (.t 11)),o 77 (.mv (.t 0)),o 78 (.mv (.t 7)),o 79 (.call 76 [false,false] [.t 77, .t 78]),o 80 (.bin .lss 0 (.t 76) (.t 79))])) (.cond (.t 80) C.skip (.exit 3))) (.seq (.blk 4 (.kp [0,6,7,11] (.ops [o 83 (.mv (.t 6)),o 84 (.mv (.t 11)),o 85 (.iaddr 2 (.t 83) (.t 84)),o 86 (.faddr 1 (.t 85)),o 87 (.load none (.t 86)),o 88 (.bin .sub 0 (.t 87) (.k (.i .i64 1))),o 89 (.iaddr 2 (.t 83) (.t 84)),o 90 (.faddr 1 (.t 89)),oz none none [] (.store 1 (.t 90) (.t 88))]))) (.kp [0,6,7,11] (.ops [o 81 (.mv (.t 11)),o 82 (.bin .add 0 (.t 81) (.k (.i .i64 1))),o 11 (.mv (.t 82))]))))
def Qo.c2:C := .loop 2 [0,6,7,11] Qo.d2
def Qo.c3:C:=(.kp [6] (.draw (sq 14) [o 51 (.mv (.t 6)),o 52 (.mv (.t 9)),o 53 (.faddr 2 (.t 3)),o 54 (.load none (.t 53)),o 55 (.mv (.t 0)),o 56 (.mv (.t 7)),o 57 (.iaddr 2 (.t 55) (.t 56)),o 58 (.faddr 1 (.t 57)),o 59 (.load none (.t 58)),o 60 (.bin .add 0 (.t 59) (.k (.i .i64 1))),o 61 (.build [.i .i64 0, .i .i64 0] [(0,1, .t 54),(1,1, .t 60)]),o 62 (.lit 2 1 [.i .i64 0, .i .i64 0] [(0, .t 61)]),o 63 (.call 92 [true,false,true] [.t 51, .t 52, .t 62]),o 6 (.mv (.t 63))]))
def Qo.d4:C:=(.seq (.seq (.kp [0,3,6,7,9,10,12,40] (.ops [o 38 (.mv (.t 12)),o 39 (.mv (.t 10)),o 40 (.bin .lss 0 (.t 38) (.t 39))])) (.cond (.t 40) C.skip (.exit 1))) (.seq (.blk 2 (.kp [0,3,6,7,9,10,12] (.ops [o 43 (.mv (.t 6)),o 44 (.mv (.t 12)),o 45 (.iaddr 2 (.t 43) (.t 44)),o 46 (.faddr 1 (.t 45)),o 47 (.load none (.t 46)),o 48 (.bin .add 0 (.t 47) (.k (.i .i64 1))),o 49 (.iaddr 2 (.t 43) (.t 44)),o 50 (.faddr 1 (.t 49)),oz none none [] (.store 1 (.t 50) (.t 48))]))) (.kp [0,3,6,7,9,10,12] (.ops [o 41 (.mv (.t 12)),o 42 (.bin .add 0 (.t 41) (.k (.i .i64 1))),o 12 (.mv (.t 42))]))))
def Qo.c4:C := .loop 2 [0,3,6,7,9,10,12] Qo.d4
def Qo.B:C:=(.seq (.kp [0,3] (.ops [o 3 (.boxK (.t 1)),o 4 (.mv (.k (.nl 2))),o 5 (.mv (.k (.i .i64 0)))])) (.seq (.seq (.kp [0,3,15] (.ops [o 13 (.mv (.t 0)),o 14 (.call 46 [false] [.t 13]),o 15 (.un .not (.t 14))])) (.cond (.t 15) (.seq (.kp [4,5] (.ops [o 16 (.lit 2 0 [.i .i64 0, .i .i64 0] []),o 4 (.mv (.t 16)),o 5 (.mv (.k (.i .i64 2)))])) C.ret) C.skip)) (.seq (.kp [0,3,6,7] (.draw (tk [0,2,3] (.alt (tk [1,4,5,6,7] .done) (tk [4,1,5,6,7] .done))) [o 17 (.mv (.t 0)),o 18 (.call 33 [false] [.t 17]),o 19 (.mv (.t 0)),o 20 (.faddr 1 (.t 3)),o 21 (.load none (.t 20)),o 22 (.call 51 [false,false] [.t 19, .t 21]),o 6 (.mv (.t 18)),o 7 (.mv (.t 22))])) (.seq (.kp [0,3,6,7,8,9,10] (.ops [o 24 (.mv (.t 0)),o 25 (.load (some 5) (.t 3)),o 26 (.mv (.t 7)),o 27 (.call 78 [false,false,false] [.t 24, .t 25, .t 26]),o 23 (.mv (.t 27)),o 28 (.ext 0 (.t 23)),o 29 (.ext 1 (.t 23)),o 30 (.ext 2 (.t 23)),o 8 (.mv (.t 28)),o 9 (.mv (.t 29)),o 10 (.mv (.t 30))])) (.seq (.seq (.kp [0,3,6,7,8,9,10,32] (.ops [o 31 (.mv (.t 8)),o 32 (.bin .neq 0 (.t 31) (.k (.i .i64 0)))])) (.cond (.t 32) (.seq (.kp [4,5] (.ops [o 33 (.mv (.t 6)),o 34 (.mv (.t 8)),o 4 (.mv (.t 33)),o 5 (.mv (.t 34))])) C.ret) C.skip)) (.seq (.seq (.kp [0,3,6,7,9,10,36] (.ops [o 35 (.faddr 0 (.t 3)),o 36 (.load none (.t 35))])) (.blk 0 (.seq (.kp [0,3,6,7,9,10,36,64] (.ops [o 65 (.bin .eql 0 (.t 36) (.k (.i .i64 1))),o 64 (.mv (.t 65))])) (.cond (.t 64) (.kp [6] (.ops [o 66 (.mv (.t 6)),o 67 (.mv (.t 7)),o 68 (.faddr 2 (.t 3)),o 69 (.load none (.t 68)),o 70 (.iaddr 2 (.t 66) (.t 67)),o 71 (.faddr 0 (.t 70)),oz none none [] (.store 1 (.t 71) (.t 69))])) (.seq (.kp [0,3,6,7,9,10,72] (.ops [o 73 (.bin .eql 0 (.t 36) (.k (.i .i64 2))),o 72 (.mv (.t 73))])) (.cond (.t 72) (.seq (.seq (.kp [0,6,7,11] (.ops [o 74 (.mv (.t 7)),o 75 (.bin .add 0 (.t 74) (.k (.i .i64 1))),o 11 (.mv (.t 75))])) (.blk 3 Qo.c2)) Qo.c1) (.seq (.seq (.kp [0,3,6,7,9,10,12] (.ops [o 37 (.mv (.t 9)),o 12 (.mv (.t 37))])) (.blk 1 Qo.c4)) Qo.c3))))))) Qo.c0))))))
def Qo.F:V.Fn:=⟨2,Qo.B,[.t 4, .t 5]⟩
def QaQ.F:V.Fn:=Qyq 1 8 [.i .i64 0]
def QaP.F:V.Fn:=Qyf 1 8 [.i .i64 0] 114
def Qai.B:C:=(.seq (.kp [0,1,3,6] (.ops [o 6 (.box 5 (.t 2))])) (.seq (.kp [0,3,6,8] (.ops [o 12 (.mv (.t 0)),o 13 (.nilc (.t 12)),o 14 (.faddr 1 (.t 13)),o 15 (.load none (.t 14)),o 16 (.mv (.t 1)),o 17 (.call 41 [false,false] [.t 15, .t 16]),o 8 (.mv (.t 17))])) (.seq (.kp [0,3,6,8] (.ops [o 18 (.mv (.t 0)),o 19 (.nilc (.t 18)),o 20 (.faddr 0 (.t 19)),o 21 (.load none (.t 20)),o 22 (.mv (.t 8)),o 23 (.call 77 [false,false] [.t 21, .t 22]),o 24 (.faddr 1 (.t 6)),oz none none [] (.store 1 (.t 24) (.t 23))])) (.seq (.kp [0,3,6,8,10] (.draw (sq 14) [o 26 (.mv (.t 0)),o 27 (.nilc (.t 26)),o 28 (.faddr 0 (.t 27)),o 29 (.load none (.t 28)),o 30 (.load (some 5) (.t 6)),o 31 (.mv (.t 8)),o 32 (.call 78 [false,false,false] [.t 29, .t 30, .t 31]),o 25 (.mv (.t 32)),o 33 (.ext 0 (.t 25)),o 34 (.ext 1 (.t 25)),o 35 (.ext 2 (.t 25)),o 9 (.mv (.t 33)),o 10 (.mv (.t 34)),o 11 (.mv (.t 35))])) (.seq (.kp [0,3,6,8,10] (.draw (sq 13) [o 37 (.mv (.t 0)),o 38 (.mv (.t 0)),o 39 (.nilc (.t 38)),o 40 (.faddr 0 (.t 39)),o 41 (.load none (.t 40)),o 42 (.load (some 5) (.t 6)),o 43 (.call 47 [false,false] [.t 41, .t 42]),o 36 (.mv (.t 43)),o 44 (.ext 0 (.t 36)),o 45 (.ext 1 (.t 36)),o 46 (.nilc (.t 37)),o 47 (.faddr 0 (.t 46)),oz none none [] (.store 1 (.t 47) (.t 44))])) (.seq (.seq (.kp [0,3,6,8,10,49] (.ops [o 48 (.faddr 0 (.t 6)),o 49 (.load none (.t 48))])) (.blk 0 (.seq (.kp [0,3,6,8,10,49,50] (.ops [o 51 (.bin .eql 0 (.t 49) (.k (.i .i64 2))),o 50 (.mv (.t 51))])) (.cond (.t 50) (.kp [0,6] (.ops [o 52 (.mv (.t 0)),o 53 (.mv (.t 0)),o 54 (.nilc (.t 53)),o 55 (.faddr 1 (.t 54)),o 56 (.load none (.t 55)),o 57 (.mv (.t 8)),o 58 (.mv (.t 8)),o 59 (.bin .add 0 (.t 58) (.k (.i .i64 1))),oz (some 60) none [56] (.call 79 [true,false,false] [.t 56, .t 57, .t 59]),o 61 (.nilc (.t 52)),o 62 (.faddr 1 (.t 61)),oz none none [] (.store 1 (.t 62) (.t 60))])) (.seq (.kp [0,3,6,10,63] (.ops [o 64 (.bin .eql 0 (.t 49) (.k (.i .i64 3))),o 63 (.mv (.t 64))])) (.cond (.t 63) (.kp [0,6] (.ops [o 65 (.mv (.t 0)),o 66 (.mv (.t 0)),o 67 (.nilc (.t 66)),o 68 (.faddr 1 (.t 67)),o 69 (.load none (.t 68)),o 70 (.mv (.t 10)),o 71 (.mv (.t 3)),o 72 (.lit 1 1 [.i .i64 0] [(0, .t 71)]),oz (some 73) none [69] (.call 80 [true,false,true] [.t 69, .t 70, .t 72]),o 74 (.nilc (.t 65)),o 75 (.faddr 1 (.t 74)),oz none none [] (.store 1 (.t 75) (.t 73))])) C.skip)))))) (.kp [] (.draw (tk [0,1,2,3,5] (.alt (tk [4,6,7,8,9,10] .done) (tk [6,4,7,8,9,10] .done))) [o 76 (.mv (.t 0)),o 77 (.mv (.t 0)),o 78 (.nilc (.t 77)),o 79 (.faddr 2 (.t 78)),o 80 (.load none (.t 79)),o 81 (.load (some 5) (.t 6)),oz (some 82) none [81] (.lit 5 1 [.i .i64 0, .deep false false 1 [], .i .i64 0, .i .i64 0, .i .i64 0] [(0, .t 81)]),o 83 (.app 5 56 (.t 80) (.t 82)),o 84 (.nilc (.t 76)),o 85 (.faddr 2 (.t 84)),oz none none [] (.store 1 (.t 85) (.t 83))]))))))))
def Qai.F:V.Fn:=⟨2,Qai.B,[]⟩
def Qaq.B:C:=(.seq (.kp [1,2] (.ops [o 2 (.boxK (.t 0)),o 3 (.mv (.k (.b false)))])) (.seq (.kp [3] (.ops [o 4 (.faddr 0 (.t 2)),o 5 (.load none (.t 4)),o 6 (.load none (.t 1)),o 7 (.bin .eql 0 (.t 5) (.t 6)),o 3 (.mv (.t 7))])) C.ret))
def Qaq.F:V.Fn:=⟨1,Qaq.B,[.t 3]⟩
def Qd.c0:C:=(.seq (.kp [4] (.ops [o 4 (.mv (.k (.i .i64 (-1))))])) C.ret)
def Qd.d1:C:=(.seq (.kp [0,1,7,8,9] (.ops [o 9 (.bin .lss 0 (.t 8) (.t 7))])) (.seq (.cond (.t 9) C.skip (.exit 0)) (.seq (.blk 1 (.seq (.kp [0,1,5,7,8] (.ops [o 10 (.mv (.t 8)),o 5 (.mv (.t 10))])) (.seq (.kp [0,1,5,7,8,16] (.ops [o 11 (.mv (.t 1)),o 12 (.mv (.t 0)),o 13 (.mv (.t 5)),o 14 (.iaddr 2 (.t 12) (.t 13)),o 15 (.load (some 2) (.t 14)),o 16 (.callv (.t 11) [] [.t 15])])) (.cond (.t 16) (.seq (.kp [4] (.ops [o 17 (.mv (.t 5)),o 4 (.mv (.t 17))])) C.ret) C.skip)))) (.kp [0,1,7,8] (.ops [o 18 (.bin .add 0 (.t 8) (.k (.i .i64 1))),o 8 (.mv (.t 18))])))))
def Qd.c1:C := .loop 5 [0,1,7,8] Qd.d1
def Qd.B:C:=(.seq (.kp [0,1] (.ops [o 4 (.mv (.k (.i .i64 0)))])) (.seq (.seq (.kp [0,1,7,8] (.ops [o 6 (.mv (.t 0)),o 7 (.len false (.t 6)),o 8 (.mv (.k (.i .i64 0)))])) (.blk 0 Qd.c1)) Qd.c0))
def Qd.F:V.Fn:=⟨5,Qd.B,[.t 4]⟩
def QD.B:C:=(.seq (.kp [0,1] (.ops [o 4 (.mv (.k (.b false)))])) (.seq (.kp [4] (.ops [o 5 (.mv (.t 0)),o 6 (.mv (.t 1)),o 7 (.call 95 [false,false] [.t 5, .t 6]),o 8 (.bin .geq 0 (.t 7) (.k (.i .i64 0))),o 4 (.mv (.t 8))])) C.ret))
def QD.F:V.Fn:=⟨5,QD.B,[.t 4]⟩
def QO.c0:C:=(.seq (.kp [4] (.ops [o 22 (.mv (.t 5)),o 4 (.mv (.t 22))])) C.ret)
def QO.d1:C:=(.seq (.kp [1,5,9,10,11] (.ops [o 11 (.bin .lss 0 (.t 10) (.t 9))])) (.seq (.cond (.t 11) C.skip (.exit 0)) (.seq (.blk 1 (.seq (.kp [1,5,6,9,10] (.ops [o 12 (.mv (.t 10)),o 6 (.alloc [.i .i64 0]),oz none none [] (.store 1 (.t 6) (.t 12))])) (.seq (.kp [1,5,6,9,10,16] (.ops [o 13 (.mv (.t 1)),o 14 (.mkfn 81 [.t 6]),o 15 (.call 55 [false,false] [.t 13, .t 14]),o 16 (.un .not (.t 15))])) (.cond (.t 16) (.kp [1,5,9,10] (.ops [o 17 (.mv (.t 5)),o 18 (.load none (.t 6)),o 19 (.lit 1 1 [.i .i64 0] [(0, .t 18)]),o 20 (.app 1 8 (.t 17) (.t 19)),o 5 (.mv (.t 20))])) C.skip)))) (.kp [1,5,9,10] (.ops [o 21 (.bin .add 0 (.t 10) (.k (.i .i64 1))),o 10 (.mv (.t 21))])))))
def QO.c1:C := .loop 2 [1,5,9,10] QO.d1
def QO.B:C:=(.seq (.kp [0,1] (.ops [o 4 (.mv (.k (.nl 1)))])) (.seq (.kp [0,1,5] (.ops [o 7 (.lit 1 0 [.i .i64 0] []),o 5 (.mv (.t 7))])) (.seq (.seq (.kp [1,5,9,10] (.ops [o 8 (.mv (.t 0)),o 9 (.len false (.t 8)),o 10 (.mv (.k (.i .i64 0)))])) (.blk 0 QO.c1)) QO.c0)))
def QO.F:V.Fn:=⟨2,QO.B,[.t 4]⟩
def Qae.B:C:=(.seq (.kp [0,1,2] (.ops [o 5 (.mv (.k (.i .i64 0)))])) (.seq (.seq (.kp [0,1,27] (.ops [o 6 (.mv (.t 0)),o 7 (.mv (.t 1)),o 8 (.bin .lss 0 (.t 6) (.t 7)),o 9 (.mv (.t 8)),og 10 9 true (.mv (.t 1)),og 11 9 true (.load none (.t 2)),og 12 9 true (.mv (.t 0)),og 13 9 true (.call 76 [false,false] [.t 11, .t 12]),og 14 9 true (.bin .lss 0 (.t 10) (.t 13)),o 15 (.pick (.t 9) (.t 14) (.k (.b false))),o 16 (.mv (.t 15)),og 17 16 false (.mv (.t 1)),og 18 16 false (.mv (.t 0)),og 19 16 false (.bin .lss 0 (.t 17) (.t 18)),og 20 16 false (.mv (.t 19)),og 21 20 true (.mv (.t 0)),og 22 20 true (.load none (.t 2)),og 23 20 true (.mv (.t 1)),og 24 20 true (.call 76 [false,false] [.t 22, .t 23]),og 25 20 true (.bin .geq 0 (.t 21) (.t 24)),og 26 16 false (.pick (.t 20) (.t 25) (.k (.b false))),o 27 (.pick (.t 16) (.k (.b true)) (.t 26))])) (.cond (.t 27) (.seq (.kp [5] (.ops [o 5 (.mv (.k (.i .i64 1)))])) C.ret) C.skip)) (.seq (.seq (.kp [30] (.ops [o 28 (.mv (.t 0)),o 29 (.mv (.t 1)),o 30 (.bin .eql 0 (.t 28) (.t 29))])) (.cond (.t 30) (.seq (.kp [5] (.ops [o 5 (.mv (.k (.i .i64 0)))])) C.ret) C.skip)) (.seq (.kp [5] (.ops [o 5 (.mv (.k (.i .i64 (-1))))])) C.ret))))
def Qae.F:V.Fn:=⟨1,Qae.B,[.t 5]⟩
def QI.c0:C:=(.seq (.kp [3] (.ops [o 20 (.mv (.t 3)),o 21 (.mkfn 83 [.t 1]),o 22 (.call 82 [true,false] [.t 20, .t 21])])) (.seq (.kp [2] (.ops [o 23 (.mv (.t 3)),o 2 (.mv (.t 23))])) C.ret))
def QI.d1:C:=(.seq (.kp [1,3,11,12,13] (.ops [o 13 (.bin .lss 0 (.t 12) (.t 11))])) (.seq (.cond (.t 13) C.skip (.exit 0)) (.seq (.blk 1 (.seq (.kp [1,3,4,11,12] (.ops [o 14 (.mv (.t 12)),o 4 (.mv (.t 14))])) (.kp [1,3,11,12] (.ops [o 15 (.mv (.t 3)),o 16 (.mv (.t 4)),o 17 (.lit 1 1 [.i .i64 0] [(0, .t 16)]),o 18 (.app 1 8 (.t 15) (.t 17)),o 3 (.mv (.t 18))])))) (.kp [1,3,11,12] (.ops [o 19 (.bin .add 0 (.t 12) (.k (.i .i64 1))),o 12 (.mv (.t 19))])))))
def QI.c1:C := .loop 1 [1,3,11,12] QI.d1
def QI.B:C:=(.seq (.kp [1] (.ops [o 1 (.box 1 (.t 0)),o 2 (.mv (.k (.nl 1)))])) (.seq (.kp [1,3] (.ops [o 5 (.lit 1 0 [.i .i64 0] []),o 3 (.mv (.t 5))])) (.seq (.seq (.kp [1,3,8] (.ops [o 6 (.load none (.t 1)),o 7 (.call 46 [false] [.t 6]),o 8 (.un .not (.t 7))])) (.cond (.t 8) (.seq (.kp [2] (.ops [o 9 (.mv (.t 3)),o 2 (.mv (.t 9))])) C.ret) C.skip)) (.seq (.seq (.kp [1,3,11,12] (.ops [o 10 (.load none (.t 1)),o 11 (.len false (.t 10)),o 12 (.mv (.k (.i .i64 0)))])) (.blk 0 QI.c1)) QI.c0))))
def QI.F:V.Fn:=⟨1,QI.B,[.t 2]⟩
def Q9.B:C:=(.seq (.kp [0,1] (.ops [o 4 (.mv (.k (.b false)))])) (.seq (.kp [4] (.ops [o 5 (.mv (.t 0)),o 6 (.mv (.t 1)),o 7 (.call 41 [false,false] [.t 5, .t 6]),o 8 (.bin .geq 0 (.t 7) (.k (.i .i64 0))),o 4 (.mv (.t 8))])) C.ret))
def Q9.F:V.Fn:=⟨1,Q9.B,[.t 4]⟩
def Q4.c0:C:=(.seq (.kp [2] (.ops [o 22 (.mv (.t 3)),o 2 (.mv (.t 22))])) C.ret)
def Q4.d1:C:=(.seq (.kp [3,7,8,9,10] (.ops [o 10 (.bin .lss 0 (.t 9) (.t 8))])) (.seq (.cond (.t 10) C.skip (.exit 0)) (.seq (.blk 1 (.seq (.kp [3,5,7,8,9] (.ops [o 11 (.iaddr 2 (.t 7) (.t 9)),o 12 (.load (some 2) (.t 11)),o 5 (.alloc [.i .i64 0, .i .i64 0]),oz none none [] (.store 2 (.t 5) (.t 12))])) (.kp [3,7,8,9] (.ops [o 13 (.mv (.t 3)),o 14 (.faddr 1 (.t 5)),o 15 (.load none (.t 14)),o 16 (.faddr 0 (.t 5)),o 17 (.load none (.t 16)),o 18 (.build [.i .i64 0, .i .i64 0] [(0,1, .t 15),(1,1, .t 17)]),o 19 (.lit 2 1 [.i .i64 0, .i .i64 0] [(0, .t 18)]),o 20 (.app 2 16 (.t 13) (.t 19)),o 3 (.mv (.t 20))])))) (.kp [3,7,8,9] (.ops [o 21 (.bin .add 0 (.t 9) (.k (.i .i64 1))),o 9 (.mv (.t 21))])))))
def Q4.c1:C := .loop 1 [3,7,8,9] Q4.d1
def Q4.B:C:=(.seq (.kp [0] (.ops [o 2 (.mv (.k (.nl 2)))])) (.seq (.kp [0,3] (.ops [o 6 (.lit 2 0 [.i .i64 0, .i .i64 0] []),o 3 (.mv (.t 6))])) (.seq (.seq (.kp [3,7,8,9] (.ops [o 7 (.mv (.t 0)),o 8 (.len false (.t 7)),o 9 (.mv (.k (.i .i64 0)))])) (.blk 0 Q4.c1)) Q4.c0)))
def Q4.F:V.Fn:=⟨1,Q4.B,[.t 2]⟩
def Qa3.B:C:=(.seq (.kp [0,1] (.ops [o 4 (.mv (.k (.nl 1)))])) (.seq (.kp [4] (.ops [o 5 (.mv (.t 0)),o 6 (.mv (.t 1)),o 7 (.call 84 [false] [.t 6]),o 8 (.call 35 [false,false] [.t 5, .t 7]),o 4 (.mv (.t 8))])) C.ret))
def Qa3.F:V.Fn:=⟨2,Qa3.B,[.t 4]⟩
def Qbs.B:C:=(.seq (.kp [0,1,2] (.ops [o 6 (.mv (.k (.b false)))])) (.seq (.kp [6] (.ops [o 7 (.mv (.t 0)),o 8 (.mv (.t 1)),o 9 (.call 75 [false,false] [.t 7, .t 8]),o 10 (.mv (.t 9)),og 11 10 true (.mv (.t 0)),og 12 10 true (.mv (.t 2)),og 13 10 true (.call 75 [false,false] [.t 11, .t 12]),o 14 (.pick (.t 10) (.t 13) (.k (.b false))),o 15 (.mv (.t 14)),og 16 15 true (.mv (.t 1)),og 17 15 true (.mv (.t 2)),og 18 15 true (.bin .lss 0 (.t 16) (.t 17)),o 19 (.pick (.t 15) (.t 18) (.k (.b false))),o 20 (.mv (.t 19)),og 21 20 true (.mv (.t 2)),og 22 20 true (.mv (.t 0)),og 23 20 true (.mv (.t 1)),og 24 20 true (.call 76 [false,false] [.t 22, .t 23]),og 25 20 true (.bin .lss 0 (.t 21) (.t 24)),o 26 (.pick (.t 20) (.t 25) (.k (.b false))),o 6 (.mv (.t 26))])) C.ret))
def Qbs.F:V.Fn:=⟨1,Qbs.B,[.t 6]⟩
def Qa.d3:C:=(.seq (.kp [0,1,2,7,54,55,56,57] (.ops [o 57 (.bin .lss 0 (.t 56) (.t 55))])) (.seq (.cond (.t 57) C.skip (.exit 2)) (.seq (.blk 3 (.seq (.kp [0,1,2,7,10,54,55,56] (.ops [o 58 (.iaddr 2 (.t 54) (.t 56)),o 59 (.load (some 2) (.t 58)),o 10 (.alloc [.i .i64 0, .i .i64 0]),oz none none [] (.store 2 (.t 10) (.t 59))])) (.seq (.kp [0,1,2,7,10,11,54,55,56] (.ops [o 60 (.mv (.t 1)),o 61 (.faddr 1 (.t 10)),o 62 (.load none (.t 61)),o 63 (.iaddr 2 (.t 60) (.t 62)),o 64 (.faddr 0 (.t 63)),o 65 (.load none (.t 64)),o 11 (.mv (.t 65))])) (.seq (.kp [0,1,2,7,10,11,54,55,56,73] (.ops [o 66 (.mv (.t 11)),o 67 (.mv (.t 0)),o 68 (.faddr 0 (.t 10)),o 69 (.load none (.t 68)),o 70 (.iaddr 2 (.t 67) (.t 69)),o 71 (.faddr 0 (.t 70)),o 72 (.load none (.t 71)),o 73 (.bin .neq 0 (.t 66) (.t 72))])) (.cond (.t 73) (.kp [0,1,2,7,54,55,56] (.ops [o 74 (.mv (.t 7)),o 75 (.faddr 0 (.t 10)),o 76 (.load none (.t 75)),o 77 (.mv (.t 11)),o 78 (.build [.i .i64 0, .nl 1, .i .i64 0, .i .i64 0, .i .i64 0] [(0,1, .k (.i .i64 1)),(2,1, .t 77)]),o 79 (.call 34 [true,false,false,false] [.t 74, .t 76, .t 78, .k (.i .i64 0)])])) C.skip))))) (.kp [0,1,2,7,54,55,56] (.ops [o 80 (.bin .add 0 (.t 56) (.k (.i .i64 1))),o 56 (.mv (.t 80))])))))
def Qa.c3:C := .loop 3 [0,1,2,7,54,55,56] Qa.d3
def Qa.d5:C:=(.seq (.kp [1,2,7,12,85,86,87,88] (.ops [o 88 (.bin .lss 0 (.t 87) (.t 86))])) (.seq (.cond (.t 88) C.skip (.exit 4)) (.seq (.blk 5 (.seq (.kp [1,2,7,12,14,85,86,87] (.ops [o 89 (.iaddr 1 (.t 85) (.t 87)),o 90 (.load none (.t 89)),o 14 (.mv (.t 90))])) (.seq (.kp [1,2,7,12,14,85,86,87,93] (.ops [o 91 (.mv (.t 12)),o 92 (.mv (.t 14)),o 93 (.call 37 [false,false] [.t 91, .t 92])])) (.cond (.t 93) (.kp [1,2,7,12,85,86,87] (.ops [o 94 (.mv (.t 7)),o 95 (.mv (.t 14)),o 96 (.build [.i .i64 0, .nl 1, .i .i64 0, .i .i64 0, .i .i64 0] [(0,1, .k (.i .i64 2))]),o 97 (.call 34 [true,false,false,false] [.t 94, .t 95, .t 96, .k (.i .i64 0)])])) C.skip)))) (.kp [1,2,7,12,85,86,87] (.ops [o 98 (.bin .add 0 (.t 87) (.k (.i .i64 1))),o 87 (.mv (.t 98))])))))
def Qa.c5:C := .loop 3 [1,2,7,12,85,86,87] Qa.d5
def Qa.d7:C:=(.seq (.kp [1,2,7,103,104,105] (.ops [o 105 (.bin .lss 0 (.t 104) (.t 103))])) (.seq (.cond (.t 105) C.skip (.exit 6)) (.seq (.blk 7 (.seq (.kp [1,2,7,15,103,104] (.ops [o 106 (.mv (.t 104)),o 15 (.mv (.t 106))])) (.kp [1,2,7,103,104] (.draw (sq 12) [o 107 (.mv (.t 7)),o 108 (.nilc (.t 107)),o 109 (.faddr 1 (.t 108)),o 110 (.load none (.t 109)),o 111 (.mv (.t 15)),o 112 (.mv (.t 2)),o 113 (.mv (.t 15)),o 114 (.iaddr 2 (.t 112) (.t 113)),o 115 (.faddr 1 (.t 114)),o 116 (.load none (.t 115)),o 117 (.iaddr 1 (.t 110) (.t 111)),oz none none [] (.store 1 (.t 117) (.t 116))])))) (.kp [1,2,7,103,104] (.ops [o 118 (.bin .add 0 (.t 104) (.k (.i .i64 1))),o 104 (.mv (.t 118))])))))
def Qa.c7:C := .loop 3 [1,2,7,103,104] Qa.d7
def Qa.d12:C:=(.seq (.kp [1,7,17,18,19,121,122,123,146,147,148,149] (.ops [o 149 (.bin .lss 0 (.t 148) (.t 147))])) (.seq (.cond (.t 149) C.skip (.exit 10)) (.seq (.blk 11 (.seq (.kp [1,7,17,18,19,21,121,122,123,146,147,148] (.ops [o 150 (.iaddr 1 (.t 146) (.t 148)),o 151 (.load none (.t 150)),o 21 (.mv (.t 151))])) (.seq (.kp [1,7,17,18,19,21,121,122,123,146,147,148,160] (.ops [o 152 (.mv (.t 7)),o 153 (.nilc (.t 152)),o 154 (.faddr 1 (.t 153)),o 155 (.load none (.t 154)),o 156 (.mv (.t 21)),o 157 (.iaddr 1 (.t 155) (.t 156)),o 158 (.load none (.t 157)),o 159 (.mv (.t 17)),o 160 (.bin .lss 0 (.t 158) (.t 159))])) (.cond (.t 160) (.kp [1,7,17,18,19,121,122,123,146,147,148] (.ops [o 161 (.faddr 3 (.t 18)),o 162 (.load none (.t 161)),o 163 (.bin .add 0 (.t 162) (.k (.i .i64 1))),o 164 (.faddr 3 (.t 18)),oz none none [] (.store 1 (.t 164) (.t 163))])) (.seq (.kp [1,7,17,18,19,121,122,123,146,147,148,174] (.ops [o 165 (.mv (.t 1)),o 166 (.mv (.t 17)),o 167 (.mv (.t 7)),o 168 (.nilc (.t 167)),o 169 (.faddr 1 (.t 168)),o 170 (.load none (.t 169)),o 171 (.mv (.t 21)),o 172 (.iaddr 1 (.t 170) (.t 171)),o 173 (.load none (.t 172)),o 174 (.call 42 [false,false,false] [.t 165, .t 166, .t 173])])) (.cond (.t 174) (.kp [1,7,17,18,19,121,122,123,146,147,148] (.ops [o 175 (.faddr 4 (.t 18)),o 176 (.load none (.t 175)),o 177 (.bin .add 0 (.t 176) (.k (.i .i64 1))),o 178 (.faddr 4 (.t 18)),oz none none [] (.store 1 (.t 178) (.t 177))])) C.skip)))))) (.kp [1,7,17,18,19,121,122,123,146,147,148] (.ops [o 179 (.bin .add 0 (.t 148) (.k (.i .i64 1))),o 148 (.mv (.t 179))])))))
def Qa.c12:C := .loop 3 [1,7,17,18,19,121,122,123,146,147,148] Qa.d12
def Qa.c11:C:=(.kp [1,7,121,122,123] (.ops [o 180 (.mv (.t 7)),o 181 (.mv (.t 19)),o 182 (.load (some 5) (.t 18)),o 183 (.mv (.t 17)),o 184 (.call 34 [true,false,false,false] [.t 180, .t 181, .t 182, .t 183])]))
def Qa.c10:C:=(.kp [1,7,121,122,123] (.ops [o 185 (.bin .add 0 (.t 123) (.k (.i .i64 1))),o 123 (.mv (.t 185))]))
def Qa.d9:C:=(.seq (.kp [1,7,121,122,123,124] (.ops [o 124 (.bin .lss 0 (.t 123) (.t 122))])) (.seq (.cond (.t 124) C.skip (.exit 8)) (.seq (.blk 9 (.seq (.kp [1,7,17,121,122,123] (.ops [o 125 (.iaddr 1 (.t 121) (.t 123)),o 126 (.load none (.t 125)),o 17 (.mv (.t 126))])) (.seq (.kp [1,7,17,18,19,121,122,123] (.draw (tk [0,1,2,3,6,7] (.alt (tk [4,5] (.alt (tk [8,9,10,11] .done) (tk [9,8,10,11] .done))) (tk [] (.alt (tk [8] (.alt (tk [4,5,9,10,11] .done) (tk [9,4,5,10,11] .done))) (tk [9] (.alt (tk [4,5,8,10,11] .done) (tk [8,4,5,10,11] .done))))))) [o 127 (.mv (.t 1)),o 128 (.mv (.t 17)),o 129 (.iaddr 2 (.t 127) (.t 128)),o 130 (.faddr 0 (.t 129)),o 131 (.load none (.t 130)),o 132 (.build [.i .i64 0, .nl 1, .i .i64 0, .i .i64 0, .i .i64 0] [(0,1, .k (.i .i64 3)),(2,1, .t 131)]),o 133 (.mv (.t 1)),o 134 (.mv (.t 17)),o 135 (.call 39 [false,false] [.t 133, .t 134]),o 18 (.alloc [.i .i64 0, .deep false false 1 [], .i .i64 0, .i .i64 0, .i .i64 0]),oz none none [] (.store 5 (.t 18) (.t 132)),o 19 (.mv (.t 135))])) (.seq (.seq (.kp [1,7,17,18,19,121,122,123,146,147,148] (.draw (tk [0,1,2,4,5,6,7,8,12] (.alt (tk [3,9,10,11] .done) (tk [9,3,10,11] .done))) [o 136 (.mv (.t 7)),o 137 (.nilc (.t 136)),o 138 (.faddr 0 (.t 137)),o 139 (.load none (.t 138)),o 140 (.mv (.t 7)),o 141 (.nilc (.t 140)),o 142 (.faddr 1 (.t 141)),o 143 (.load none (.t 142)),o 144 (.mv (.t 19)),o 145 (.call 41 [false,false] [.t 143, .t 144]),o 146 (.call 40 [false,false] [.t 139, .t 145]),o 147 (.len false (.t 146)),o 148 (.mv (.k (.i .i64 0)))])) (.blk 10 Qa.c12)) Qa.c11)))) Qa.c10)))
def Qa.c9:C := .loop 3 [1,7,121,122,123] Qa.d9
def Qa.c8:C:=(.seq (.kp [6] (.ops [o 186 (.mv (.t 7)),o 187 (.nilc (.t 186)),o 188 (.faddr 2 (.t 187)),o 189 (.load none (.t 188)),o 6 (.mv (.t 189))])) C.ret)
def Qa.c6:C:=(.seq (.seq (.kp [1,7,121,122,123] (.ops [o 119 (.mv (.t 1)),o 120 (.mv (.t 2)),o 121 (.call 38 [false,false] [.t 119, .t 120]),o 122 (.len false (.t 121)),o 123 (.mv (.k (.i .i64 0)))])) (.blk 8 Qa.c9)) Qa.c8)
def Qa.c4:C:=(.seq (.seq (.kp [1,2,7,103,104] (.ops [o 99 (.mv (.t 7)),o 100 (.nilc (.t 99)),o 101 (.faddr 1 (.t 100)),o 102 (.load none (.t 101)),o 103 (.len false (.t 102)),o 104 (.mv (.k (.i .i64 0)))])) (.blk 6 Qa.c7)) Qa.c6)
def Qa.c2:C:=(.seq (.kp [0,1,2,7,12] (.ops [o 81 (.mv (.t 0)),o 82 (.mv (.t 2)),o 83 (.call 35 [false,false] [.t 81, .t 82]),o 12 (.mv (.t 83))])) (.seq (.seq (.kp [1,2,7,12,85,86,87] (.ops [o 84 (.mv (.t 0)),o 85 (.call 36 [false] [.t 84]),o 86 (.len false (.t 85)),o 87 (.mv (.k (.i .i64 0)))])) (.blk 4 Qa.c5)) Qa.c4))
def Qa.c0:C:=(.seq (.seq (.kp [0,1,2,7,54,55,56] (.ops [o 54 (.mv (.t 2)),o 55 (.len false (.t 54)),o 56 (.mv (.k (.i .i64 0)))])) (.blk 2 Qa.c3)) Qa.c2)
def Qa.d1:C:=(.seq (.kp [0,1,2,7,39,40,41] (.ops [o 41 (.bin .lss 0 (.t 40) (.t 39))])) (.seq (.cond (.t 41) C.skip (.exit 0)) (.seq (.blk 1 (.seq (.kp [0,1,2,7,8,39,40] (.ops [o 42 (.mv (.t 40)),o 8 (.mv (.t 42))])) (.kp [0,1,2,7,39,40] (.ops [o 43 (.mv (.t 7)),o 44 (.mv (.t 7)),o 45 (.nilc (.t 44)),o 46 (.faddr 1 (.t 45)),o 47 (.load none (.t 46)),o 48 (.mv (.t 8)),o 49 (.lit 1 1 [.i .i64 0] [(0, .t 48)]),o 50 (.app 1 8 (.t 47) (.t 49)),o 51 (.nilc (.t 43)),o 52 (.faddr 1 (.t 51)),oz none none [] (.store 1 (.t 52) (.t 50))])))) (.kp [0,1,2,7,39,40] (.ops [o 53 (.bin .add 0 (.t 40) (.k (.i .i64 1))),o 40 (.mv (.t 53))])))))
def Qa.c1:C := .loop 3 [0,1,2,7,39,40] Qa.d1
def Qa.B:C:=(.seq (.kp [0,1,2] (.ops [o 6 (.mv (.k (.nl 5)))])) (.seq (.seq (.kp [0,1,2,31] (.ops [o 22 (.mv (.t 0)),o 23 (.mv (.t 1)),o 24 (.mv (.t 2)),o 25 (.call 31 [false,false,false] [.t 22, .t 23, .t 24]),o 26 (.un .not (.t 25)),o 27 (.mv (.t 26)),og 28 27 false (.mv (.t 2)),og 29 27 false (.call 32 [false] [.t 28]),og 30 27 false (.un .not (.t 29)),o 31 (.pick (.t 27) (.k (.b true)) (.t 30))])) (.cond (.t 31) (.seq (.kp [6] (.ops [o 32 (.lit 5 0 [.i .i64 0, .deep false false 1 [], .i .i64 0, .i .i64 0, .i .i64 0] []),o 6 (.mv (.t 32))])) C.ret) C.skip)) (.seq (.kp [0,1,2,7] (.ops [o 33 (.mv (.t 0)),o 34 (.call 33 [false] [.t 33]),o 35 (.lit 5 0 [.i .i64 0, .deep false false 1 [], .i .i64 0, .i .i64 0, .i .i64 0] []),o 36 (.build [.nl 2, .nl 1, .nl 5] [(0,1, .t 34),(2,1, .t 35)]),o 37 (.box 3 (.t 36)),o 7 (.mv (.t 37))])) (.seq (.seq (.kp [0,1,2,7,39,40] (.ops [o 38 (.mv (.t 0)),o 39 (.len false (.t 38)),o 40 (.mv (.k (.i .i64 0)))])) (.blk 0 Qa.c1)) Qa.c0))))
def Qa.F:V.Fn:=⟨3,Qa.B,[.t 6]⟩
def QaC.B:C:=(.seq (.kp [0] (.ops [o 2 (.mv (.k (.b false)))])) (.seq (.kp [2] (.ops [o 3 (.mv (.t 0)),o 4 (.len false (.t 3)),o 5 (.bin .gtr 0 (.t 4) (.k (.i .i64 0))),o 6 (.mv (.t 5)),og 7 6 true (.mv (.t 0)),og 8 6 true (.iaddr 2 (.t 7) (.k (.i .i64 0))),og 9 6 true (.load (some 2) (.t 8)),og 10 6 true (.build [.i .i64 0, .i .i64 0] []),og 11 6 true (.eqA false [0,0] (.t 9) (.t 10)),o 12 (.pick (.t 6) (.t 11) (.k (.b false))),o 2 (.mv (.t 12))])) C.ret))
def QaC.F:V.Fn:=⟨1,QaC.B,[.t 2]⟩
def QR.c0:C:=(.seq (.kp [4,5,6] (.ops [o 38 (.mv (.t 7)),o 39 (.mv (.t 1)),o 40 (.len false (.t 39)),o 4 (.mv (.t 38)),o 5 (.mv (.t 40)),o 6 (.mv (.k (.i .i64 0)))])) C.ret)
def QR.d1:C:=(.seq (.kp [1,7,18,19,20,21] (.ops [o 21 (.bin .lss 0 (.t 20) (.t 19))])) (.seq (.cond (.t 21) C.skip (.exit 0)) (.seq (.blk 1 (.seq (.kp [1,7,8,9,18,19,20] (.ops [o 22 (.mv (.t 20)),o 23 (.iaddr 5 (.t 18) (.t 20)),o 24 (.load (some 5) (.t 23)),o 9 (.alloc [.i .i64 0, .deep false false 1 [], .i .i64 0, .i .i64 0, .i .i64 0]),o 8 (.mv (.t 22)),oz none none [24] (.store 5 (.t 9) (.t 24))])) (.seq (.kp [1,7,8,10,11,18,19,20] (.ops [o 26 (.mv (.t 7)),o 27 (.load (some 5) (.t 9)),o 28 (.call 47 [false,false] [.t 26, .t 27]),o 25 (.mv (.t 28)),o 29 (.ext 0 (.t 25)),o 30 (.ext 1 (.t 25)),o 10 (.mv (.t 29)),o 11 (.mv (.t 30))])) (.seq (.seq (.kp [1,7,8,10,11,18,19,20,32] (.ops [o 31 (.mv (.t 11)),o 32 (.bin .neq 0 (.t 31) (.k (.i .i64 0)))])) (.cond (.t 32) (.seq (.kp [4,5,6] (.ops [o 33 (.mv (.t 7)),o 34 (.mv (.t 8)),o 35 (.mv (.t 11)),o 4 (.mv (.t 33)),o 5 (.mv (.t 34)),o 6 (.mv (.t 35))])) C.ret) C.skip)) (.kp [1,7,18,19,20] (.ops [o 36 (.mv (.t 10)),o 7 (.mv (.t 36))])))))) (.kp [1,7,18,19,20] (.ops [o 37 (.bin .add 0 (.t 20) (.k (.i .i64 1))),o 20 (.mv (.t 37))])))))
def QR.c1:C := .loop 2 [1,7,18,19,20] QR.d1
def QR.B:C:=(.seq (.kp [0,1] (.ops [o 4 (.mv (.k (.nl 2))),o 5 (.mv (.k (.i .i64 0))),o 6 (.mv (.k (.i .i64 0)))])) (.seq (.seq (.kp [0,1,14] (.ops [o 12 (.mv (.t 0)),o 13 (.call 46 [false] [.t 12]),o 14 (.un .not (.t 13))])) (.cond (.t 14) (.seq (.kp [4,5,6] (.ops [o 15 (.lit 2 0 [.i .i64 0, .i .i64 0] []),o 4 (.mv (.t 15)),o 5 (.mv (.k (.i .i64 0))),o 6 (.mv (.k (.i .i64 2)))])) C.ret) C.skip)) (.seq (.kp [1,7] (.ops [o 16 (.mv (.t 0)),o 17 (.call 33 [false] [.t 16]),o 7 (.mv (.t 17))])) (.seq (.seq (.kp [1,7,18,19,20] (.ops [o 18 (.mv (.t 1)),o 19 (.len false (.t 18)),o 20 (.mv (.k (.i .i64 0)))])) (.blk 0 QR.c1)) QR.c0))))
def QR.F:V.Fn:=⟨2,QR.B,[.t 4, .t 5, .t 6]⟩
def QQ.c0:C:=(.seq (.kp [4] (.ops [o 4 (.mv (.k (.b true)))])) C.ret)
def QQ.d1:C:=(.seq (.seq (.kp [0,1,5,14] (.ops [o 11 (.mv (.t 5)),o 12 (.mv (.t 0)),o 13 (.len false (.t 12)),o 14 (.bin .lss 0 (.t 11) (.t 13))])) (.cond (.t 14) C.skip (.exit 0))) (.seq (.blk 1 (.seq (.kp [0,1,5,25] (.draw (sq 9) [o 17 (.mv (.t 0)),o 18 (.mv (.t 5)),o 19 (.iaddr 2 (.t 17) (.t 18)),o 20 (.load (some 2) (.t 19)),o 21 (.mv (.t 1)),o 22 (.mv (.t 5)),o 23 (.iaddr 2 (.t 21) (.t 22)),o 24 (.load (some 2) (.t 23)),o 25 (.eqA true [0,0] (.t 20) (.t 24))])) (.cond (.t 25) (.seq (.kp [4] (.ops [o 4 (.mv (.k (.b false)))])) C.ret) C.skip))) (.kp [0,1,5] (.ops [o 15 (.mv (.t 5)),o 16 (.bin .add 0 (.t 15) (.k (.i .i64 1))),o 5 (.mv (.t 16))]))))
def QQ.c1:C := .loop 2 [0,1,5] QQ.d1
def QQ.B:C:=(.seq (.kp [0,1] (.ops [o 4 (.mv (.k (.b false)))])) (.seq (.seq (.kp [0,1,10] (.ops [o 6 (.mv (.t 0)),o 7 (.len false (.t 6)),o 8 (.mv (.t 1)),o 9 (.len false (.t 8)),o 10 (.bin .neq 0 (.t 7) (.t 9))])) (.cond (.t 10) (.seq (.kp [4] (.ops [o 4 (.mv (.k (.b false)))])) C.ret) C.skip)) (.seq (.seq (.kp [0,1,5] (.ops [o 5 (.mv (.k (.i .i64 0)))])) (.blk 0 QQ.c1)) QQ.c0)))
def QQ.F:V.Fn:=⟨2,QQ.B,[.t 4]⟩
def QZ.c0:C:=(.seq (.kp [2] (.ops [o 16 (.mv (.t 0)),o 17 (.len false (.t 16)),o 18 (.bin .leq 0 (.t 17) (.k (.i .i64 12))),o 2 (.mv (.t 18))])) C.ret)
def QZ.d1:C:=(.seq (.seq (.kp [0,3,7] (.ops [o 4 (.mv (.t 3)),o 5 (.mv (.t 0)),o 6 (.len false (.t 5)),o 7 (.bin .lss 0 (.t 4) (.t 6))])) (.cond (.t 7) C.skip (.exit 0))) (.seq (.blk 1 (.seq (.kp [0,3,15] (.ops [o 10 (.mv (.t 0)),o 11 (.mv (.t 3)),o 12 (.iaddr 1 (.t 10) (.t 11)),o 13 (.load none (.t 12)),o 14 (.call 85 [false,false,false] [.t 13, .k (.i .i64 0), .k (.i .i64 24)]),o 15 (.un .not (.t 14))])) (.cond (.t 15) (.seq (.kp [2] (.ops [o 2 (.mv (.k (.b false)))])) C.ret) C.skip))) (.kp [0,3] (.ops [o 8 (.mv (.t 3)),o 9 (.bin .add 0 (.t 8) (.k (.i .i64 1))),o 3 (.mv (.t 9))]))))
def QZ.c1:C := .loop 1 [0,3] QZ.d1
def QZ.B:C:=(.seq (.kp [0] (.ops [o 2 (.mv (.k (.b false)))])) (.seq (.seq (.kp [0,3] (.ops [o 3 (.mv (.k (.i .i64 0)))])) (.blk 0 QZ.c1)) QZ.c0))
def QZ.F:V.Fn:=⟨1,QZ.B,[.t 2]⟩
def QbH.B:C:=(.seq (.kp [1] (.ops [o 1 (.boxK (.t 0)),o 2 (.mv (.k (.b false)))])) (.seq (.seq (.kp [1,6] (.ops [o 3 (.faddr 1 (.t 1)),o 4 (.load none (.t 3)),o 5 (.call 93 [false] [.t 4]),o 6 (.un .not (.t 5))])) (.cond (.t 6) (.seq (.kp [2] (.ops [o 2 (.mv (.k (.b false)))])) C.ret) C.skip)) (.seq (.seq (.kp [1,8] (.ops [o 7 (.faddr 0 (.t 1)),o 8 (.load none (.t 7))])) (.blk 0 (.seq (.kp [1,8,9] (.ops [o 10 (.bin .eql 0 (.t 8) (.k (.i .i64 1))),o 9 (.mv (.t 10))])) (.cond (.t 9) (.seq (.kp [2] (.ops [o 11 (.faddr 2 (.t 1)),o 12 (.load none (.t 11)),o 13 (.call 87 [false] [.t 12]),o 14 (.mv (.t 13)),og 15 14 true (.faddr 3 (.t 1)),og 16 14 true (.load none (.t 15)),og 17 14 true (.bin .eql 0 (.t 16) (.k (.i .i64 0))),o 18 (.pick (.t 14) (.t 17) (.k (.b false))),o 19 (.mv (.t 18)),og 20 19 true (.faddr 4 (.t 1)),og 21 19 true (.load none (.t 20)),og 22 19 true (.bin .eql 0 (.t 21) (.k (.i .i64 0))),o 23 (.pick (.t 19) (.t 22) (.k (.b false))),o 2 (.mv (.t 23))])) C.ret) (.seq (.kp [1,8,24] (.ops [o 25 (.bin .eql 0 (.t 8) (.k (.i .i64 2))),o 24 (.mv (.t 25))])) (.cond (.t 24) (.seq (.kp [2] (.ops [o 26 (.faddr 2 (.t 1)),o 27 (.load none (.t 26)),o 28 (.bin .eql 0 (.t 27) (.k (.i .i64 0))),o 29 (.mv (.t 28)),og 30 29 true (.faddr 3 (.t 1)),og 31 29 true (.load none (.t 30)),og 32 29 true (.bin .eql 0 (.t 31) (.k (.i .i64 0))),o 33 (.pick (.t 29) (.t 32) (.k (.b false))),o 34 (.mv (.t 33)),og 35 34 true (.faddr 4 (.t 1)),og 36 34 true (.load none (.t 35)),og 37 34 true (.bin .eql 0 (.t 36) (.k (.i .i64 0))),o 38 (.pick (.t 34) (.t 37) (.k (.b false))),o 2 (.mv (.t 38))])) C.ret) (.seq (.kp [1,39] (.ops [o 40 (.bin .eql 0 (.t 8) (.k (.i .i64 3))),o 39 (.mv (.t 40))])) (.cond (.t 39) (.seq (.kp [2] (.ops [o 41 (.faddr 2 (.t 1)),o 42 (.load none (.t 41)),o 43 (.call 87 [false] [.t 42]),o 44 (.mv (.t 43)),og 45 44 true (.faddr 3 (.t 1)),og 46 44 true (.load none (.t 45)),og 47 44 true (.call 85 [false,false,false] [.t 46, .k (.i .i64 0), .k (.i .i64 24)]),o 48 (.pick (.t 44) (.t 47) (.k (.b false))),o 49 (.mv (.t 48)),og 50 49 true (.faddr 4 (.t 1)),og 51 49 true (.load none (.t 50)),og 52 49 true (.call 85 [false,false,false] [.t 51, .k (.i .i64 0), .k (.i .i64 24)]),o 53 (.pick (.t 49) (.t 52) (.k (.b false))),o 2 (.mv (.t 53))])) C.ret) C.skip)))))))) (.seq (.kp [2] (.ops [o 2 (.mv (.k (.b false)))])) C.ret))))
def QbH.F:V.Fn:=⟨1,QbH.B,[.t 2]⟩
def QT.c0:C:=(.seq (.kp [2] (.ops [o 16 (.mv (.t 0)),o 17 (.len false (.t 16)),o 18 (.bin .leq 0 (.t 17) (.k (.i .i64 60))),o 2 (.mv (.t 18))])) C.ret)
def QT.d1:C:=(.seq (.seq (.kp [0,3,7] (.ops [o 4 (.mv (.t 3)),o 5 (.mv (.t 0)),o 6 (.len false (.t 5)),o 7 (.bin .lss 0 (.t 4) (.t 6))])) (.cond (.t 7) C.skip (.exit 0))) (.seq (.blk 1 (.seq (.kp [0,3,15] (.ops [o 10 (.mv (.t 0)),o 11 (.mv (.t 3)),o 12 (.iaddr 5 (.t 10) (.t 11)),o 13 (.load (some 5) (.t 12)),o 14 (.call 48 [false] [.t 13]),o 15 (.un .not (.t 14))])) (.cond (.t 15) (.seq (.kp [2] (.ops [o 2 (.mv (.k (.b false)))])) C.ret) C.skip))) (.kp [0,3] (.ops [o 8 (.mv (.t 3)),o 9 (.bin .add 0 (.t 8) (.k (.i .i64 1))),o 3 (.mv (.t 9))]))))
def QT.c1:C := .loop 1 [0,3] QT.d1
def QT.B:C:=(.seq (.kp [0] (.ops [o 2 (.mv (.k (.b false)))])) (.seq (.seq (.kp [0,3] (.ops [o 3 (.mv (.k (.i .i64 0)))])) (.blk 0 QT.c1)) QT.c0))
def QT.F:V.Fn:=⟨1,QT.B,[.t 2]⟩
def QH.c0:C:=(.seq (.kp [4] (.ops [o 21 (.mv (.t 5)),o 4 (.mv (.t 21))])) C.ret)
def QH.d1:C:=(.seq (.kp [1,5,8,9,10,11] (.ops [o 11 (.bin .lss 0 (.t 10) (.t 9))])) (.seq (.cond (.t 11) C.skip (.exit 0)) (.seq (.blk 1 (.seq (.kp [1,5,7,8,9,10] (.ops [o 12 (.iaddr 5 (.t 8) (.t 10)),o 13 (.load (some 5) (.t 12)),o 7 (.alloc [.i .i64 0, .deep false false 1 [], .i .i64 0, .i .i64 0, .i .i64 0]),oz none none [13] (.store 5 (.t 7) (.t 13))])) (.seq (.kp [1,5,8,9,10,17] (.ops [o 14 (.faddr 0 (.t 7)),o 15 (.load none (.t 14)),o 16 (.mv (.t 1)),o 17 (.bin .eql 0 (.t 15) (.t 16))])) (.cond (.t 17) (.kp [1,5,8,9,10] (.ops [o 18 (.mv (.t 5)),o 19 (.bin .add 0 (.t 18) (.k (.i .i64 1))),o 5 (.mv (.t 19))])) C.skip)))) (.kp [1,5,8,9,10] (.ops [o 20 (.bin .add 0 (.t 10) (.k (.i .i64 1))),o 10 (.mv (.t 20))])))))
def QH.c1:C := .loop 1 [1,5,8,9,10] QH.d1
def QH.B:C:=(.seq (.kp [0,1] (.ops [o 4 (.mv (.k (.i .i64 0)))])) (.seq (.kp [0,1,5] (.ops [o 5 (.mv (.k (.i .i64 0)))])) (.seq (.seq (.kp [1,5,8,9,10] (.ops [o 8 (.mv (.t 0)),o 9 (.len false (.t 8)),o 10 (.mv (.k (.i .i64 0)))])) (.blk 0 QH.c1)) QH.c0)))
def QH.F:V.Fn:=⟨1,QH.B,[.t 4]⟩
def Q7.c0:C:=(.seq (.kp [4] (.ops [o 18 (.mv (.t 0)),o 19 (.len false (.t 18)),o 20 (.mv (.t 1)),o 21 (.bin .eql 0 (.t 19) (.t 20)),o 4 (.mv (.t 21))])) C.ret)
def Q7.d1:C:=(.seq (.seq (.kp [0,1,5,9] (.ops [o 6 (.mv (.t 5)),o 7 (.mv (.t 0)),o 8 (.len false (.t 7)),o 9 (.bin .lss 0 (.t 6) (.t 8))])) (.cond (.t 9) C.skip (.exit 0))) (.seq (.blk 1 (.seq (.kp [0,1,5,17] (.ops [o 12 (.mv (.t 0)),o 13 (.mv (.t 5)),o 14 (.iaddr 1 (.t 12) (.t 13)),o 15 (.load none (.t 14)),o 16 (.call 85 [false,false,false] [.t 15, .k (.i .i64 0), .k (.i .i64 1000)]),o 17 (.un .not (.t 16))])) (.cond (.t 17) (.seq (.kp [4] (.ops [o 4 (.mv (.k (.b false)))])) C.ret) C.skip))) (.kp [0,1,5] (.ops [o 10 (.mv (.t 5)),o 11 (.bin .add 0 (.t 10) (.k (.i .i64 1))),o 5 (.mv (.t 11))]))))
def Q7.c1:C := .loop 1 [0,1,5] Q7.d1
def Q7.B:C:=(.seq (.kp [0,1] (.ops [o 4 (.mv (.k (.b false)))])) (.seq (.seq (.kp [0,1,5] (.ops [o 5 (.mv (.k (.i .i64 0)))])) (.blk 0 Q7.c1)) Q7.c0))
def Q7.F:V.Fn:=⟨1,Q7.B,[.t 4]⟩
def QX.c0:C:=(.seq (.kp [2] (.ops [o 2 (.mv (.k (.b true)))])) C.ret)
def QX.d1:C:=(.seq (.seq (.kp [1,3,21] (.ops [o 20 (.mv (.t 3)),o 21 (.bin .lss 0 (.t 20) (.k (.i .i64 6)))])) (.cond (.t 21) C.skip (.exit 0))) (.seq (.blk 1 (.seq (.kp [1,3,32] (.ops [o 24 (.faddr 2 (.t 1)),o 25 (.load none (.t 24)),o 26 (.mv (.t 3)),o 27 (.bin .mul 0 (.t 26) (.k (.i .i64 6))),o 28 (.mv (.t 3)),o 29 (.bin .add 0 (.t 27) (.t 28)),o 30 (.iaddr 1 (.t 25) (.t 29)),o 31 (.load none (.t 30)),o 32 (.bin .neq 0 (.t 31) (.k (.i .i64 0)))])) (.cond (.t 32) (.seq (.kp [2] (.ops [o 2 (.mv (.k (.b false)))])) C.ret) C.skip))) (.kp [1,3] (.ops [o 22 (.mv (.t 3)),o 23 (.bin .add 0 (.t 22) (.k (.i .i64 1))),o 3 (.mv (.t 23))]))))
def QX.c1:C := .loop 3 [1,3] QX.d1
def QX.B:C:=(.seq (.kp [1] (.ops [o 1 (.boxK (.t 0)),o 2 (.mv (.k (.b false)))])) (.seq (.seq (.kp [1,19] (.ops [o 4 (.faddr 0 (.t 1)),o 5 (.load none (.t 4)),o 6 (.call 49 [false,false] [.t 5, .k (.i .i64 6)]),o 7 (.un .not (.t 6)),o 8 (.mv (.t 7)),og 9 8 false (.faddr 1 (.t 1)),og 10 8 false (.load none (.t 9)),og 11 8 false (.call 49 [false,false] [.t 10, .k (.i .i64 6)]),og 12 8 false (.un .not (.t 11)),o 13 (.pick (.t 8) (.k (.b true)) (.t 12)),o 14 (.mv (.t 13)),og 15 14 false (.faddr 2 (.t 1)),og 16 14 false (.load none (.t 15)),og 17 14 false (.call 49 [false,false] [.t 16, .k (.i .i64 36)]),og 18 14 false (.un .not (.t 17)),o 19 (.pick (.t 14) (.k (.b true)) (.t 18))])) (.cond (.t 19) (.seq (.kp [2] (.ops [o 2 (.mv (.k (.b false)))])) C.ret) C.skip)) (.seq (.seq (.kp [1,3] (.ops [o 3 (.mv (.k (.i .i64 0)))])) (.blk 0 QX.c1)) QX.c0)))
def QX.F:V.Fn:=⟨3,QX.B,[.t 2]⟩
def Qap.B:C:=(.seq (.kp [0] (.ops [o 2 (.mv (.k (.b false)))])) (.seq (.kp [2] (.ops [o 3 (.mv (.t 0)),o 4 (.call 88 [false,false,false] [.t 3, .k (.i .i64 0), .k (.i .i64 1000)]),o 5 (.un .not (.t 4)),o 2 (.mv (.t 5))])) C.ret))
def Qap.F:V.Fn:=⟨0,Qap.B,[.t 2]⟩
def Qn.c0:C:=(.seq (.kp [4] (.ops [o 4 (.mv (.k (.i .i64 (-1))))])) C.ret)
def Qn.d1:C:=(.seq (.kp [0,1,7,8,9] (.ops [o 9 (.bin .lss 0 (.t 8) (.t 7))])) (.seq (.cond (.t 9) C.skip (.exit 0)) (.seq (.blk 1 (.seq (.kp [0,1,5,7,8] (.ops [o 10 (.mv (.t 8)),o 5 (.mv (.t 10))])) (.seq (.kp [0,1,5,7,8,16] (.ops [o 11 (.mv (.t 1)),o 12 (.mv (.t 0)),o 13 (.mv (.t 5)),o 14 (.iaddr 1 (.t 12) (.t 13)),o 15 (.load none (.t 14)),o 16 (.callv (.t 11) [] [.t 15])])) (.cond (.t 16) (.seq (.kp [4] (.ops [o 17 (.mv (.t 5)),o 4 (.mv (.t 17))])) C.ret) C.skip)))) (.kp [0,1,7,8] (.ops [o 18 (.bin .add 0 (.t 8) (.k (.i .i64 1))),o 8 (.mv (.t 18))])))))
def Qn.c1:C := .loop 5 [0,1,7,8] Qn.d1
def Qn.B:C:=(.seq (.kp [0,1] (.ops [o 4 (.mv (.k (.i .i64 0)))])) (.seq (.seq (.kp [0,1,7,8] (.ops [o 6 (.mv (.t 0)),o 7 (.len false (.t 6)),o 8 (.mv (.k (.i .i64 0)))])) (.blk 0 Qn.c1)) Qn.c0))
def Qn.F:V.Fn:=⟨5,Qn.B,[.t 4]⟩
def Q1.B:C:=(.seq (.kp [0,1] (.ops [o 4 (.mv (.k (.b false)))])) (.seq (.kp [4] (.ops [o 5 (.mv (.t 0)),o 6 (.mv (.t 1)),o 7 (.call 140 [false,false] [.t 5, .t 6]),o 8 (.bin .geq 0 (.t 7) (.k (.i .i64 0))),o 4 (.mv (.t 8))])) C.ret))
def Q1.F:V.Fn:=⟨5,Q1.B,[.t 4]⟩
def QaG.B:C:=(.seq (.kp [0,1] (.ops [o 4 (.mv (.k (.b false)))])) (.seq (.kp [4] (.ops [o 5 (.mv (.t 0)),o 6 (.len false (.t 5)),o 7 (.mv (.t 1)),o 8 (.bin .eql 0 (.t 6) (.t 7)),o 9 (.mv (.t 8)),og 10 9 true (.mv (.t 0)),og 11 9 true (.call 119 [false,false] [.t 10, .k (.fn 120 [])]),og 12 9 true (.un .not (.t 11)),o 13 (.pick (.t 9) (.t 12) (.k (.b false))),o 4 (.mv (.t 13))])) C.ret))
def QaG.F:V.Fn:=⟨1,QaG.B,[.t 4]⟩
def QP.c0:C:=(.seq (.kp [2] (.ops [o 2 (.mv (.k (.b true)))])) C.ret)
def QP.d1:C:=(.seq (.kp [1,20,21] (.ops [o 21 (.bin .lss 0 (.t 20) (.k (.i .i64 6)))])) (.seq (.cond (.t 21) C.skip (.exit 0)) (.seq (.blk 1 (.seq (.kp [1,3,20] (.ops [o 22 (.mv (.t 20)),o 3 (.mv (.t 22))])) (.seq (.kp [1,20,31] (.ops [o 23 (.faddr 2 (.t 1)),o 24 (.load none (.t 23)),o 25 (.mv (.t 3)),o 26 (.bin .mul 0 (.t 25) (.k (.i .i64 6))),o 27 (.mv (.t 3)),o 28 (.bin .add 0 (.t 26) (.t 27)),o 29 (.iaddr 1 (.t 24) (.t 28)),o 30 (.load none (.t 29)),o 31 (.bin .neq 0 (.t 30) (.k (.i .i64 0)))])) (.cond (.t 31) (.seq (.kp [2] (.ops [o 2 (.mv (.k (.b false)))])) C.ret) C.skip)))) (.kp [1,20] (.ops [o 32 (.bin .add 0 (.t 20) (.k (.i .i64 1))),o 20 (.mv (.t 32))])))))
def QP.c1:C := .loop 3 [1,20] QP.d1
def QP.B:C:=(.seq (.kp [1] (.ops [o 1 (.boxK (.t 0)),o 2 (.mv (.k (.b false)))])) (.seq (.seq (.kp [1,19] (.ops [o 4 (.faddr 0 (.t 1)),o 5 (.load none (.t 4)),o 6 (.call 94 [false,false] [.t 5, .k (.i .i64 6)]),o 7 (.un .not (.t 6)),o 8 (.mv (.t 7)),og 9 8 false (.faddr 1 (.t 1)),og 10 8 false (.load none (.t 9)),og 11 8 false (.call 94 [false,false] [.t 10, .k (.i .i64 6)]),og 12 8 false (.un .not (.t 11)),o 13 (.pick (.t 8) (.k (.b true)) (.t 12)),o 14 (.mv (.t 13)),og 15 14 false (.faddr 2 (.t 1)),og 16 14 false (.load none (.t 15)),og 17 14 false (.call 94 [false,false] [.t 16, .k (.i .i64 36)]),og 18 14 false (.un .not (.t 17)),o 19 (.pick (.t 14) (.k (.b true)) (.t 18))])) (.cond (.t 19) (.seq (.kp [2] (.ops [o 2 (.mv (.k (.b false)))])) C.ret) C.skip)) (.seq (.seq (.kp [1,20] (.ops [o 20 (.mv (.k (.i .i64 0)))])) (.blk 0 QP.c1)) QP.c0)))
def QP.F:V.Fn:=⟨3,QP.B,[.t 2]⟩
def QaV.B:C:=(.seq (.kp [1,2,3] (.ops [o 3 (.boxK (.t 0)),o 6 (.mv (.k (.i .i64 0)))])) (.seq (.seq (.kp [1,2,3,19] (.ops [o 7 (.load (some 3) (.t 3)),o 8 (.call 50 [false] [.t 7]),o 9 (.un .not (.t 8)),o 10 (.mv (.t 9)),og 11 10 false (.mv (.t 1)),og 12 10 false (.call 89 [false] [.t 11]),og 13 10 false (.un .not (.t 12)),o 14 (.pick (.t 10) (.k (.b true)) (.t 13)),o 15 (.mv (.t 14)),og 16 15 false (.mv (.t 2)),og 17 15 false (.call 89 [false] [.t 16]),og 18 15 false (.un .not (.t 17)),o 19 (.pick (.t 15) (.k (.b true)) (.t 18))])) (.cond (.t 19) (.seq (.kp [6] (.ops [o 6 (.mv (.k (.i .i64 0)))])) C.ret) C.skip)) (.seq (.kp [6] (.ops [o 20 (.faddr 2 (.t 3)),o 21 (.load none (.t 20)),o 22 (.mv (.t 1)),o 23 (.bin .mul 0 (.t 22) (.k (.i .i64 6))),o 24 (.mv (.t 2)),o 25 (.bin .add 0 (.t 23) (.t 24)),o 26 (.iaddr 1 (.t 21) (.t 25)),o 27 (.load none (.t 26)),o 6 (.mv (.t 27))])) C.ret)))
def QaV.F:V.Fn:=⟨3,QaV.B,[.t 6]⟩
def Qa6.B:C:=(.seq (.kp [1,2] (.ops [o 2 (.boxK (.t 0)),o 4 (.mv (.k (.i .i64 0)))])) (.seq (.seq (.kp [1,2,12] (.ops [o 5 (.load (some 3) (.t 2)),o 6 (.call 50 [false] [.t 5]),o 7 (.un .not (.t 6)),o 8 (.mv (.t 7)),og 9 8 false (.mv (.t 1)),og 10 8 false (.call 89 [false] [.t 9]),og 11 8 false (.un .not (.t 10)),o 12 (.pick (.t 8) (.k (.b true)) (.t 11))])) (.cond (.t 12) (.seq (.kp [4] (.ops [o 4 (.mv (.k (.i .i64 0)))])) C.ret) C.skip)) (.seq (.kp [4] (.ops [o 13 (.faddr 0 (.t 2)),o 14 (.load none (.t 13)),o 15 (.mv (.t 1)),o 16 (.iaddr 1 (.t 14) (.t 15)),o 17 (.load none (.t 16)),o 4 (.mv (.t 17))])) C.ret)))
def Qa6.F:V.Fn:=⟨3,Qa6.B,[.t 4]⟩
def Qa5.B:C:=(.seq (.kp [1,2] (.ops [o 2 (.boxK (.t 0)),o 4 (.mv (.k (.i .i64 0)))])) (.seq (.seq (.kp [1,2,12] (.ops [o 5 (.load (some 3) (.t 2)),o 6 (.call 50 [false] [.t 5]),o 7 (.un .not (.t 6)),o 8 (.mv (.t 7)),og 9 8 false (.mv (.t 1)),og 10 8 false (.call 89 [false] [.t 9]),og 11 8 false (.un .not (.t 10)),o 12 (.pick (.t 8) (.k (.b true)) (.t 11))])) (.cond (.t 12) (.seq (.kp [4] (.ops [o 4 (.mv (.k (.i .i64 0)))])) C.ret) C.skip)) (.seq (.kp [4] (.ops [o 13 (.faddr 1 (.t 2)),o 14 (.load none (.t 13)),o 15 (.mv (.t 1)),o 16 (.iaddr 1 (.t 14) (.t 15)),o 17 (.load none (.t 16)),o 4 (.mv (.t 17))])) C.ret)))
def Qa5.F:V.Fn:=⟨3,Qa5.B,[.t 4]⟩
def Qy.c0:C:=(.seq (.kp [6] (.ops [o 76 (.mv (.t 7)),o 6 (.mv (.t 76))])) C.ret)
def Qy.d1:C:=(.seq (.kp [5,7,8,24,25,26,27] (.ops [o 27 (.bin .lss 0 (.t 26) (.t 25))])) (.seq (.cond (.t 27) C.skip (.exit 0)) (.seq (.blk 1 (.seq (.kp [5,7,8,10,24,25,26] (.ops [o 28 (.iaddr 5 (.t 24) (.t 26)),o 29 (.load (some 5) (.t 28)),o 10 (.alloc [.i .i64 0, .deep false false 1 [], .i .i64 0, .i .i64 0, .i .i64 0]),oz none none [29] (.store 5 (.t 10) (.t 29))])) (.seq (.kp [5,7,8,10,11,24,25,26] (.ops [o 30 (.mv (.t 8)),o 31 (.faddr 1 (.t 10)),o 32 (.load none (.t 31)),o 33 (.call 51 [false,false] [.t 30, .t 32]),o 11 (.mv (.t 33))])) (.seq (.kp [5,7,8,10,11,12,13,24,25,26] (.ops [o 35 (.mv (.t 8)),o 36 (.load (some 5) (.t 10)),o 37 (.call 47 [false,false] [.t 35, .t 36]),o 34 (.mv (.t 37)),o 38 (.ext 0 (.t 34)),o 39 (.ext 1 (.t 34)),o 12 (.mv (.t 38)),o 13 (.mv (.t 39))])) (.seq (.seq (.kp [5,7,8,10,11,12,24,25,26,41] (.ops [o 40 (.mv (.t 13)),o 41 (.bin .neq 0 (.t 40) (.k (.i .i64 0)))])) (.cond (.t 41) (.seq (.kp [6] (.ops [o 6 (.mv (.k (.i .i64 (-1))))])) C.ret) C.skip)) (.seq (.seq (.kp [5,7,8,10,11,12,24,25,26,43] (.ops [o 42 (.faddr 0 (.t 10)),o 43 (.load none (.t 42))])) (.blk 2 (.seq (.kp [5,7,8,10,11,12,24,25,26,43,50] (.ops [o 51 (.bin .eql 0 (.t 43) (.k (.i .i64 1))),o 50 (.mv (.t 51))])) (.cond (.t 50) (.kp [5,7,12,24,25,26] (.draw (sq 12) [o 52 (.mv (.t 7)),o 53 (.load (some 3) (.t 5)),o 54 (.mv (.t 8)),o 55 (.mv (.t 11)),o 56 (.iaddr 2 (.t 54) (.t 55)),o 57 (.faddr 0 (.t 56)),o 58 (.load none (.t 57)),o 59 (.faddr 2 (.t 10)),o 60 (.load none (.t 59)),o 61 (.call 52 [false,false,false] [.t 53, .t 58, .t 60]),o 62 (.bin .add 0 (.t 52) (.t 61)),o 7 (.mv (.t 62))])) (.seq (.kp [5,7,8,10,11,12,24,25,26,63] (.ops [o 64 (.bin .eql 0 (.t 43) (.k (.i .i64 2))),o 63 (.mv (.t 64))])) (.cond (.t 63) (.kp [5,7,12,24,25,26] (.draw (sq 10) [o 65 (.mv (.t 7)),o 66 (.load (some 3) (.t 5)),o 67 (.mv (.t 8)),o 68 (.mv (.t 11)),o 69 (.iaddr 2 (.t 67) (.t 68)),o 70 (.faddr 0 (.t 69)),o 71 (.load none (.t 70)),o 72 (.call 53 [false,false] [.t 66, .t 71]),o 73 (.bin .add 0 (.t 65) (.t 72)),o 7 (.mv (.t 73))])) (.kp [5,7,12,24,25,26] (.ops [o 44 (.mv (.t 7)),o 45 (.load (some 3) (.t 5)),o 46 (.faddr 2 (.t 10)),o 47 (.load none (.t 46)),o 48 (.call 54 [false,false] [.t 45, .t 47]),o 49 (.bin .add 0 (.t 44) (.t 48)),o 7 (.mv (.t 49))])))))))) (.kp [5,7,8,24,25,26] (.ops [o 74 (.mv (.t 12)),o 8 (.mv (.t 74))])))))))) (.kp [5,7,8,24,25,26] (.ops [o 75 (.bin .add 0 (.t 26) (.k (.i .i64 1))),o 26 (.mv (.t 75))])))))
def Qy.c1:C := .loop 5 [5,7,8,24,25,26] Qy.d1
def Qy.B:C:=(.seq (.kp [0,1,5] (.ops [o 5 (.boxK (.t 2)),o 6 (.mv (.k (.i .i64 0)))])) (.seq (.seq (.kp [0,1,5,21] (.ops [o 14 (.mv (.t 0)),o 15 (.call 46 [false] [.t 14]),o 16 (.un .not (.t 15)),o 17 (.mv (.t 16)),og 18 17 false (.load (some 3) (.t 5)),og 19 17 false (.call 50 [false] [.t 18]),og 20 17 false (.un .not (.t 19)),o 21 (.pick (.t 17) (.k (.b true)) (.t 20))])) (.cond (.t 21) (.seq (.kp [6] (.ops [o 6 (.mv (.k (.i .i64 (-1))))])) C.ret) C.skip)) (.seq (.kp [1,5,7,8] (.ops [o 22 (.mv (.t 0)),o 23 (.call 33 [false] [.t 22]),o 7 (.mv (.k (.i .i64 0))),o 8 (.mv (.t 23))])) (.seq (.seq (.kp [5,7,8,24,25,26] (.ops [o 24 (.mv (.t 1)),o 25 (.len false (.t 24)),o 26 (.mv (.k (.i .i64 0)))])) (.blk 0 Qy.c1)) Qy.c0))))
def Qy.F:V.Fn:=⟨5,Qy.B,[.t 6]⟩
def Qay.B:C:=(.seq (.kp [1,2] (.ops [o 2 (.boxK (.t 0)),o 3 (.mv (.k (.b false)))])) (.seq (.kp [3] (.ops [o 4 (.faddr 0 (.t 2)),o 5 (.load none (.t 4)),o 6 (.load none (.t 1)),o 7 (.bin .eql 0 (.t 5) (.t 6)),o 3 (.mv (.t 7))])) C.ret))
def Qay.F:V.Fn:=⟨1,Qay.B,[.t 3]⟩
def Qh.c0:C:=(.seq (.kp [4] (.ops [o 4 (.mv (.k (.i .i64 (-1))))])) C.ret)
def Qh.d1:C:=(.seq (.kp [0,1,7,8,9] (.ops [o 9 (.bin .lss 0 (.t 8) (.t 7))])) (.seq (.cond (.t 9) C.skip (.exit 0)) (.seq (.blk 1 (.seq (.kp [0,1,5,7,8] (.ops [o 10 (.mv (.t 8)),o 5 (.mv (.t 10))])) (.seq (.kp [0,1,5,7,8,16] (.ops [o 11 (.mv (.t 1)),o 12 (.mv (.t 0)),o 13 (.mv (.t 5)),o 14 (.iaddr 2 (.t 12) (.t 13)),o 15 (.load (some 2) (.t 14)),o 16 (.callv (.t 11) [] [.t 15])])) (.cond (.t 16) (.seq (.kp [4] (.ops [o 17 (.mv (.t 5)),o 4 (.mv (.t 17))])) C.ret) C.skip)))) (.kp [0,1,7,8] (.ops [o 18 (.bin .add 0 (.t 8) (.k (.i .i64 1))),o 8 (.mv (.t 18))])))))
def Qh.c1:C := .loop 5 [0,1,7,8] Qh.d1
def Qh.B:C:=(.seq (.kp [0,1] (.ops [o 4 (.mv (.k (.i .i64 0)))])) (.seq (.seq (.kp [0,1,7,8] (.ops [o 6 (.mv (.t 0)),o 7 (.len false (.t 6)),o 8 (.mv (.k (.i .i64 0)))])) (.blk 0 Qh.c1)) Qh.c0))
def Qh.F:V.Fn:=⟨5,Qh.B,[.t 4]⟩
def QL.B:C:=(.seq (.kp [0,1] (.ops [o 4 (.mv (.k (.b false)))])) (.seq (.kp [4] (.ops [o 5 (.mv (.t 0)),o 6 (.mv (.t 1)),o 7 (.call 95 [false,false] [.t 5, .t 6]),o 8 (.bin .geq 0 (.t 7) (.k (.i .i64 0))),o 4 (.mv (.t 8))])) C.ret))
def QL.F:V.Fn:=⟨5,QL.B,[.t 4]⟩
def Qax.B:C:=(.seq (.kp [1,2] (.ops [o 2 (.boxK (.t 0)),o 3 (.mv (.k (.b false)))])) (.seq (.kp [3] (.ops [o 4 (.faddr 1 (.t 2)),o 5 (.load none (.t 4)),o 6 (.load none (.t 1)),o 7 (.bin .eql 0 (.t 5) (.t 6)),o 3 (.mv (.t 7))])) C.ret))
def Qax.F:V.Fn:=⟨1,Qax.B,[.t 3]⟩
def Qg.c0:C:=(.seq (.kp [4] (.ops [o 4 (.mv (.k (.i .i64 (-1))))])) C.ret)
def Qg.d1:C:=(.seq (.kp [0,1,7,8,9] (.ops [o 9 (.bin .lss 0 (.t 8) (.t 7))])) (.seq (.cond (.t 9) C.skip (.exit 0)) (.seq (.blk 1 (.seq (.kp [0,1,5,7,8] (.ops [o 10 (.mv (.t 8)),o 5 (.mv (.t 10))])) (.seq (.kp [0,1,5,7,8,16] (.ops [o 11 (.mv (.t 1)),o 12 (.mv (.t 0)),o 13 (.mv (.t 5)),o 14 (.iaddr 2 (.t 12) (.t 13)),o 15 (.load (some 2) (.t 14)),o 16 (.callv (.t 11) [] [.t 15])])) (.cond (.t 16) (.seq (.kp [4] (.ops [o 17 (.mv (.t 5)),o 4 (.mv (.t 17))])) C.ret) C.skip)))) (.kp [0,1,7,8] (.ops [o 18 (.bin .add 0 (.t 8) (.k (.i .i64 1))),o 8 (.mv (.t 18))])))))
def Qg.c1:C := .loop 5 [0,1,7,8] Qg.d1
def Qg.B:C:=(.seq (.kp [0,1] (.ops [o 4 (.mv (.k (.i .i64 0)))])) (.seq (.seq (.kp [0,1,7,8] (.ops [o 6 (.mv (.t 0)),o 7 (.len false (.t 6)),o 8 (.mv (.k (.i .i64 0)))])) (.blk 0 Qg.c1)) Qg.c0))
def Qg.F:V.Fn:=⟨5,Qg.B,[.t 4]⟩
def QK.B:C:=(.seq (.kp [0,1] (.ops [o 4 (.mv (.k (.b false)))])) (.seq (.kp [4] (.ops [o 5 (.mv (.t 0)),o 6 (.mv (.t 1)),o 7 (.call 95 [false,false] [.t 5, .t 6]),o 8 (.bin .geq 0 (.t 7) (.k (.i .i64 0))),o 4 (.mv (.t 8))])) C.ret))
def QK.F:V.Fn:=⟨5,QK.B,[.t 4]⟩
def Qi.d3:C:=(.seq (.kp [0,1,3,6,9,46,47,48,49] (.ops [o 49 (.bin .lss 0 (.t 48) (.t 47))])) (.seq (.cond (.t 49) C.skip (.exit 2)) (.seq (.blk 3 (.seq (.kp [0,1,3,6,9,12,13,46,47,48] (.ops [o 50 (.mv (.t 48)),o 51 (.iaddr 2 (.t 46) (.t 48)),o 52 (.load (some 2) (.t 51)),o 12 (.alloc [.i .i64 0]),o 13 (.alloc [.i .i64 0, .i .i64 0]),oz none none [] (.store 1 (.t 12) (.t 50)),oz none none [] (.store 2 (.t 13) (.t 52))])) (.seq (.kp [0,1,3,6,9,13,46,47,48,56] (.ops [o 53 (.mv (.t 3)),o 54 (.mkfn 57 [.t 12]),o 55 (.call 55 [false,false] [.t 53, .t 54]),o 56 (.un .not (.t 55))])) (.cond (.t 56) (.kp [0,1,3,6,9,46,47,48] (.ops [o 57 (.mv (.t 9)),o 58 (.faddr 1 (.t 6)),o 59 (.load none (.t 58)),o 60 (.faddr 0 (.t 13)),o 61 (.load none (.t 60)),o 62 (.iaddr 1 (.t 59) (.t 61)),o 63 (.load none (.t 62)),o 64 (.bin .add 0 (.t 57) (.t 63)),o 9 (.mv (.t 64))])) C.skip)))) (.kp [0,1,3,6,9,46,47,48] (.ops [o 65 (.bin .add 0 (.t 48) (.k (.i .i64 1))),o 48 (.mv (.t 65))])))))
def Qi.c3:C := .loop 6 [0,1,3,6,9,46,47,48] Qi.d3
def Qi.d5:C:=(.seq (.kp [0,1,6,9,66,67,68,69] (.ops [o 69 (.bin .lss 0 (.t 68) (.t 67))])) (.seq (.cond (.t 69) C.skip (.exit 4)) (.seq (.blk 5 (.seq (.kp [0,1,6,9,15,66,67,68] (.ops [o 70 (.iaddr 2 (.t 66) (.t 68)),o 71 (.load (some 2) (.t 70)),o 15 (.alloc [.i .i64 0, .i .i64 0]),oz none none [] (.store 2 (.t 15) (.t 71))])) (.kp [0,1,6,9,66,67,68] (.draw (sq 17) [o 72 (.mv (.t 9)),o 73 (.load (some 3) (.t 6)),o 74 (.mv (.t 0)),o 75 (.faddr 0 (.t 15)),o 76 (.load none (.t 75)),o 77 (.iaddr 2 (.t 74) (.t 76)),o 78 (.faddr 0 (.t 77)),o 79 (.load none (.t 78)),o 80 (.mv (.t 1)),o 81 (.faddr 1 (.t 15)),o 82 (.load none (.t 81)),o 83 (.iaddr 2 (.t 80) (.t 82)),o 84 (.faddr 0 (.t 83)),o 85 (.load none (.t 84)),o 86 (.call 52 [false,false,false] [.t 73, .t 79, .t 85]),o 87 (.bin .add 0 (.t 72) (.t 86)),o 9 (.mv (.t 87))])))) (.kp [0,1,6,9,66,67,68] (.ops [o 88 (.bin .add 0 (.t 68) (.k (.i .i64 1))),o 68 (.mv (.t 88))])))))
def Qi.c5:C := .loop 6 [0,1,6,9,66,67,68] Qi.d5
def Qi.c4:C:=(.seq (.kp [8] (.ops [o 89 (.mv (.t 9)),o 8 (.mv (.t 89))])) C.ret)
def Qi.c2:C:=(.seq (.seq (.kp [0,1,6,9,66,67,68] (.ops [o 66 (.mv (.t 3)),o 67 (.len false (.t 66)),o 68 (.mv (.k (.i .i64 0)))])) (.blk 4 Qi.c5)) Qi.c4)
def Qi.c0:C:=(.seq (.seq (.kp [0,1,3,6,9,46,47,48] (.ops [o 46 (.mv (.t 1)),o 47 (.len false (.t 46)),o 48 (.mv (.k (.i .i64 0)))])) (.blk 2 Qi.c3)) Qi.c2)
def Qi.d1:C:=(.seq (.kp [0,1,3,6,9,26,27,28,29] (.ops [o 29 (.bin .lss 0 (.t 28) (.t 27))])) (.seq (.cond (.t 29) C.skip (.exit 0)) (.seq (.blk 1 (.seq (.kp [0,1,3,6,9,10,11,26,27,28] (.ops [o 30 (.mv (.t 28)),o 31 (.iaddr 2 (.t 26) (.t 28)),o 32 (.load (some 2) (.t 31)),o 10 (.alloc [.i .i64 0]),o 11 (.alloc [.i .i64 0, .i .i64 0]),oz none none [] (.store 1 (.t 10) (.t 30)),oz none none [] (.store 2 (.t 11) (.t 32))])) (.seq (.kp [0,1,3,6,9,11,26,27,28,36] (.ops [o 33 (.mv (.t 3)),o 34 (.mkfn 56 [.t 10]),o 35 (.call 55 [false,false] [.t 33, .t 34]),o 36 (.un .not (.t 35))])) (.cond (.t 36) (.kp [0,1,3,6,9,26,27,28] (.ops [o 37 (.mv (.t 9)),o 38 (.faddr 0 (.t 6)),o 39 (.load none (.t 38)),o 40 (.faddr 0 (.t 11)),o 41 (.load none (.t 40)),o 42 (.iaddr 1 (.t 39) (.t 41)),o 43 (.load none (.t 42)),o 44 (.bin .add 0 (.t 37) (.t 43)),o 9 (.mv (.t 44))])) C.skip)))) (.kp [0,1,3,6,9,26,27,28] (.ops [o 45 (.bin .add 0 (.t 28) (.k (.i .i64 1))),o 28 (.mv (.t 45))])))))
def Qi.c1:C := .loop 6 [0,1,3,6,9,26,27,28] Qi.d1
def Qi.B:C:=(.seq (.kp [0,1,3,6] (.ops [o 6 (.boxK (.t 2)),o 8 (.mv (.k (.i .i64 0)))])) (.seq (.seq (.kp [0,1,3,6,25] (.ops [o 16 (.mv (.t 0)),o 17 (.mv (.t 1)),o 18 (.mv (.t 3)),o 19 (.call 31 [false,false,false] [.t 16, .t 17, .t 18]),o 20 (.un .not (.t 19)),o 21 (.mv (.t 20)),og 22 21 false (.load (some 3) (.t 6)),og 23 21 false (.call 50 [false] [.t 22]),og 24 21 false (.un .not (.t 23)),o 25 (.pick (.t 21) (.k (.b true)) (.t 24))])) (.cond (.t 25) (.seq (.kp [8] (.ops [o 8 (.mv (.k (.i .i64 (-1))))])) C.ret) C.skip)) (.seq (.kp [0,1,3,6,9] (.ops [o 9 (.mv (.k (.i .i64 0)))])) (.seq (.seq (.kp [0,1,3,6,9,26,27,28] (.ops [o 26 (.mv (.t 0)),o 27 (.len false (.t 26)),o 28 (.mv (.k (.i .i64 0)))])) (.blk 0 Qi.c1)) Qi.c0))))
def Qi.F:V.Fn:=⟨6,Qi.B,[.t 8]⟩
def Qv.c0:C:=(.seq (.seq (.kp [3,4,5,6,7,11,91] (.ops [o 73 (.mv (.t 10)),o 74 (.bin .neq 0 (.t 73) (.k (.i .i64 0))),o 75 (.mv (.t 74)),og 76 75 false (.mv (.t 9)),og 77 75 false (.mv (.t 7)),og 78 75 false (.len false (.t 77)),og 79 75 false (.bin .neq 0 (.t 76) (.t 78)),o 80 (.pick (.t 75) (.k (.b true)) (.t 79)),o 81 (.mv (.t 80)),og 82 81 false (.mv (.t 8)),og 83 81 false (.mv (.t 4)),og 84 81 false (.call 11 [false,false] [.t 82, .t 83]),og 85 81 false (.un .not (.t 84)),o 86 (.pick (.t 81) (.k (.b true)) (.t 85)),o 87 (.mv (.t 86)),og 88 87 false (.mv (.t 7)),og 89 87 false (.call 12 [false] [.t 88]),og 90 87 false (.un .not (.t 89)),o 91 (.pick (.t 87) (.k (.b true)) (.t 90))])) (.cond (.t 91) (.seq (.kp [2] (.ops [o 2 (.mv (.k (.b false)))])) C.ret) C.skip)) (.seq (.kp [2] (.draw (tk [0,2,1,3,4,5,7,8,9,10,11,6,12,13,14,15,17,18,19,20,21,16,22,23,24,25,26,27,28,29,30,31,33,34,36] (.alt (tk [32,35,37,38,39,40,41] .done) (tk [35,32,37,38,39,40,41] .done))) [o 92 (.mv (.t 7)),o 93 (.call 13 [false,false] [.t 92, .k (.i .i64 1)]),o 94 (.mv (.t 11)),o 95 (.bin .eql 0 (.t 93) (.t 94)),o 96 (.mv (.t 95)),og 97 96 true (.mv (.t 7)),og 98 96 true (.call 13 [false,false] [.t 97, .k (.i .i64 2)]),og 99 96 true (.mv (.t 3)),og 100 96 true (.len false (.t 99)),og 101 96 true (.mv (.t 6)),og 102 96 true (.len false (.t 101)),og 103 96 true (.bin .sub 0 (.t 100) (.t 102)),og 104 96 true (.bin .eql 0 (.t 98) (.t 103)),o 105 (.pick (.t 96) (.t 104) (.k (.b false))),o 106 (.mv (.t 105)),og 107 106 true (.mv (.t 7)),og 108 106 true (.call 13 [false,false] [.t 107, .k (.i .i64 3)]),og 109 106 true (.mv (.t 4)),og 110 106 true (.len false (.t 109)),og 111 106 true (.mv (.t 6)),og 112 106 true (.len false (.t 111)),og 113 106 true (.bin .sub 0 (.t 110) (.t 112)),og 114 106 true (.bin .eql 0 (.t 108) (.t 113)),o 115 (.pick (.t 106) (.t 114) (.k (.b false))),o 116 (.mv (.t 115)),og 117 116 true (.load (some 3) (.t 5)),og 118 116 true (.call 14 [false] [.t 117]),og 119 116 true (.un .not (.t 118)),og 120 116 true (.mv (.t 119)),og 121 120 false (.mv (.t 3)),og 122 120 false (.mv (.t 7)),og 123 120 false (.load (some 3) (.t 5)),og 124 120 false (.call 15 [false,false,false] [.t 121, .t 122, .t 123]),og 125 120 false (.mv (.t 3)),og 126 120 false (.mv (.t 4)),og 127 120 false (.load (some 3) (.t 5)),og 128 120 false (.mv (.t 6)),og 129 120 false (.call 16 [false,false,false,false] [.t 125, .t 126, .t 127, .t 128]),og 130 120 false (.bin .eql 0 (.t 124) (.t 129)),og 131 116 true (.pick (.t 120) (.k (.b true)) (.t 130)),o 132 (.pick (.t 116) (.t 131) (.k (.b false))),o 2 (.mv (.t 132))])) C.ret))
def Qv.d1:C:=(.seq (.seq (.kp [3,4,5,6,7,8,9,10,11,12,49] (.ops [o 46 (.mv (.t 12)),o 47 (.mv (.t 6)),o 48 (.len false (.t 47)),o 49 (.bin .lss 0 (.t 46) (.t 48))])) (.cond (.t 49) C.skip (.exit 0))) (.seq (.blk 1 (.seq (.kp [3,4,5,6,7,8,9,10,11,12,70] (.draw (sq 19) [o 52 (.mv (.t 3)),o 53 (.mv (.t 6)),o 54 (.mv (.t 12)),o 55 (.iaddr 2 (.t 53) (.t 54)),o 56 (.faddr 0 (.t 55)),o 57 (.load none (.t 56)),o 58 (.iaddr 2 (.t 52) (.t 57)),o 59 (.faddr 0 (.t 58)),o 60 (.load none (.t 59)),o 61 (.mv (.t 4)),o 62 (.mv (.t 6)),o 63 (.mv (.t 12)),o 64 (.iaddr 2 (.t 62) (.t 63)),o 65 (.faddr 1 (.t 64)),o 66 (.load none (.t 65)),o 67 (.iaddr 2 (.t 61) (.t 66)),o 68 (.faddr 0 (.t 67)),o 69 (.load none (.t 68)),o 70 (.bin .neq 0 (.t 60) (.t 69))])) (.cond (.t 70) (.kp [3,4,5,6,7,8,9,10,11,12] (.ops [o 71 (.mv (.t 11)),o 72 (.bin .add 0 (.t 71) (.k (.i .i64 1))),o 11 (.mv (.t 72))])) C.skip))) (.kp [3,4,5,6,7,8,9,10,11,12] (.ops [o 50 (.mv (.t 12)),o 51 (.bin .add 0 (.t 50) (.k (.i .i64 1))),o 12 (.mv (.t 51))]))))
def Qv.c1:C := .loop 1 [3,4,5,6,7,8,9,10,11,12] Qv.d1
def Qv.B:C:=(.seq (.kp [0] (.ops [o 2 (.mv (.k (.b false)))])) (.seq (.seq (.kp [0,14] (.ops [o 13 (.mv (.t 0)),o 14 (.call 5 [false] [.t 13])])) (.cond (.t 14) (.seq (.kp [2] (.ops [o 2 (.mv (.k (.b true)))])) C.ret) C.skip)) (.seq (.kp [3,4,5,6] (.ops [o 16 (.mv (.t 0)),o 17 (.call 6 [false] [.t 16]),o 15 (.mv (.t 17)),o 18 (.ext 0 (.t 15)),o 19 (.ext 1 (.t 15)),o 20 (.ext 2 (.t 15)),o 21 (.ext 3 (.t 15)),o 5 (.alloc [.deep false false 1 [], .deep false false 1 [], .deep false false 1 []]),o 3 (.mv (.t 18)),o 4 (.mv (.t 19)),oz none none [] (.store 3 (.t 5) (.t 20)),o 6 (.mv (.t 21))])) (.seq (.kp [3,4,5,6,7] (.ops [o 22 (.mv (.t 3)),o 23 (.mv (.t 4)),o 24 (.mv (.t 6)),o 25 (.call 7 [false,false,false] [.t 22, .t 23, .t 24]),o 7 (.mv (.t 25))])) (.seq (.seq (.kp [3,4,5,6,7,35] (.ops [o 26 (.mv (.t 3)),o 27 (.mv (.t 4)),o 28 (.mv (.t 6)),o 29 (.call 8 [false,false,false] [.t 26, .t 27, .t 28]),o 30 (.un .not (.t 29)),o 31 (.mv (.t 30)),og 32 31 false (.mv (.t 6)),og 33 31 false (.call 9 [false] [.t 32]),og 34 31 false (.un .not (.t 33)),o 35 (.pick (.t 31) (.k (.b true)) (.t 34))])) (.cond (.t 35) (.seq (.kp [2] (.ops [o 36 (.mv (.t 7)),o 37 (.len false (.t 36)),o 38 (.bin .eql 0 (.t 37) (.k (.i .i64 0))),o 2 (.mv (.t 38))])) C.ret) C.skip)) (.seq (.kp [3,4,5,6,7,8,9,10] (.ops [o 40 (.mv (.t 3)),o 41 (.mv (.t 7)),o 42 (.call 10 [false,false] [.t 40, .t 41]),o 39 (.mv (.t 42)),o 43 (.ext 0 (.t 39)),o 44 (.ext 1 (.t 39)),o 45 (.ext 2 (.t 39)),o 8 (.mv (.t 43)),o 9 (.mv (.t 44)),o 10 (.mv (.t 45))])) (.seq (.kp [3,4,5,6,7,8,9,10,11] (.ops [o 11 (.mv (.k (.i .i64 0)))])) (.seq (.seq (.kp [3,4,5,6,7,8,9,10,11,12] (.ops [o 12 (.mv (.k (.i .i64 0)))])) (.blk 0 Qv.c1)) Qv.c0))))))))
def Qv.F:V.Fn:=⟨1,Qv.B,[.t 2]⟩
def tab:List (Nat×V.Fn):=[(5,Qb5.F),(30,Q5.F),(126,QaH.F),(107,QC.F),(123,Qak.F),(104,Qa0.F),(103,QN.F),(58,QaL.F),(85,Qaw.F),(87,QaI.F),(45,QG.F),(105,QJ.F),(124,Qr.F),(125,Qan.F),(106,Qm.F),(127,Qbr.F),(108,QB.F),(109,Qbq.F),(73,Qab.F),(43,QaW.F),(86,Q2.F),(44,Qbh.F),(8,Qu.F),(110,Qx.F),(74,Qbd.F),(29,Qbb.F),(6,QaD.F),(88,Qaa.F),(89,Qar.F),(90,Qa2.F),(46,QE.F),(75,Qal.F),(76,QU.F),(31,Qt.F),(32,QaE.F),(33,Qz.F),(41,Qq.F),(39,QF.F),(40,QS.F),(111,Qa4.F),(112,Qw.F),(77,Q3.F),(78,QA.F),(51,QY.F),(91,Qag.F),(92,Qaf.F),(47,Qo.F),(79,QaQ.F),(80,QaP.F),(34,Qai.F),(81,Qaq.F),(95,Qd.F),(55,QD.F),(35,QO.F),(83,Qae.F),(36,QI.F),(37,Q9.F),(84,Q4.F),(38,Qa3.F),(42,Qbs.F),(7,Qa.F),(9,QaC.F),(10,QR.F),(11,QQ.F),(93,QZ.F),(48,QbH.F),(12,QT.F),(13,QH.F),(49,Q7.F),(14,QX.F),(120,Qap.F),(140,Qn.F),(119,Q1.F),(94,QaG.F),(50,QP.F),(52,QaV.F),(53,Qa6.F),(54,Qa5.F),(15,Qy.F),(56,Qay.F),(57,Qax.F),(16,Qi.F),(3,Qv.F)]
noncomputable def env:V.Env:=⟨fun f=>tab.lookup f,fun f=>if f=82 then some QoL else none⟩
end Go.Proofs.YtallpjhkmcgpoaaGreat.P
end
section
namespace Go.Proofs.YtallpjhkmcgpoaaGreat.P
open Go Go.RowKit Go.Proofs.YtallpjhkmcgpoaaGreat.V
def Qb5.f (l0:List Int):Option Bool:=some (decide ((l0.length:Int) > 1048576))
theorem Qb5.link {l0:List Int} {r:Bool} (H:Qb5.f l0=some r):Qao env 5 [.deep false true 1 (l0.map e8)]=some ([.b r],[none]):=by
 unfold Qb5.f at H
 refine QM (F:=Qb5.F) (tm:=Qav [(0, .slc 0 [] 0 1 0 l0.length)]) (rs:=rsL [(0,some ⟨false,1,0,(l0.map e8)⟩)]) (nx:=1) (ow:=[false]) rfl (by rfl) (by simp only [SN]) (by simp only [SN]) (by decide) ?_
 show W env Qb5.B _ (Qf [.t 2] [false] _)
 unfold Qb5.B
 injection H with H;subst H
 try simp only [TN,simprocAttr, *]
 try rfl
end Go.Proofs.YtallpjhkmcgpoaaGreat.P
end
section
namespace Go.Proofs.YtallpjhkmcgpoaaGreat.P
open Go Go.RowKit Go.Proofs.YtallpjhkmcgpoaaGreat.V
def QaH.f (p0_0:List Int) (p0_1:Int) (p0_2:Int):Option (Int×Int×Int):=if p0_1<(p0_0.length:Int) then (if 0≤p0_1 then (some (Go.bits .and .i64 (wrap64 ((Go.bits .and .i64 (Go.bits .xor .i64 (shr .i64 (wrap64 ((wrap64 (p0_2 * 6364136223846793005))+1442695040888963407)) 33) (shr .i64 (wrap64 ((wrap64 (p0_2 * 6364136223846793005))+1442695040888963407)) 45)) 255)+(wrap64 (rd p0_0 p0_1)))) 255,wrap64 (p0_1+1),wrap64 ((wrap64 (p0_2 * 6364136223846793005))+1442695040888963407))) else none) else (some (Go.bits .and .i64 (Go.bits .xor .i64 (shr .i64 (wrap64 ((wrap64 (p0_2 * 6364136223846793005))+1442695040888963407)) 33) (shr .i64 (wrap64 ((wrap64 (p0_2 * 6364136223846793005))+1442695040888963407)) 45)) 255,p0_1,wrap64 ((wrap64 (p0_2 * 6364136223846793005))+1442695040888963407)))
theorem QaH.link {p0_0:List Int} {p0_1:Int} {p0_2:Int} {r:Int×Int×Int} (H:QaH.f p0_0 p0_1 p0_2=some r):Qao env 126 [.deep true false 3 [[.deep false true 1 (p0_0.map e8), .i .i64 p0_1, .i .i64 p0_2]]]=some ([.i .i64 r.1],[some [[.deep false true 1 (p0_0.map e8), .i .i64 r.2.1, .i .i64 r.2.2]]]):=by
 unfold QaH.f at H
 refine QM (F:=QaH.F) (tm:=Qav [(0, .ptr 0 [] 0 0 0)]) (rs:=rsL [(0,some ⟨true,3,0,[[.deep false true 1 (p0_0.map e8), .i .i64 p0_1, .i .i64 p0_2]]⟩)]) (nx:=1) (ow:=[true]) rfl (by rfl) (by simp only [SN]) (by simp only [SN]) (by decide) ?_
 show W env QaH.B _ (Qf [.t 2] [true] _)
 unfold QaH.B
 try simp only [TN,simprocAttr, *]
 rcases Qad H with ⟨h1,H⟩|⟨h1,H⟩
 ·skip
  obtain ⟨h2,H⟩:=i1 H
  injection H with H;subst H
  try simp only [TN,simprocAttr, *]
  try rfl
 ·skip
  injection H with H;subst H
  try simp only [TN,simprocAttr, *]
  try rfl
end Go.Proofs.YtallpjhkmcgpoaaGreat.P
end
section
namespace Go.Proofs.YtallpjhkmcgpoaaGreat.P
open Go Go.RowKit Go.Proofs.YtallpjhkmcgpoaaGreat.V
def QC.f (p0_0:List Int) (p0_1:Int) (p0_2:Int) (a1:Int):Option (Int×Int×Int):=if a1≤0 then (some (0,p0_1,p0_2)) else (if a1≤256 then ((QaH.f p0_0 p0_1 p0_2).bind fun bt1=>(if a1=0 then none else (some (Int.tmod bt1.1 a1,bt1.2.1,bt1.2.2)))) else ((QaH.f p0_0 p0_1 p0_2).bind fun bt2=>((QaH.f p0_0 bt2.2.1 bt2.2.2).bind fun bt3=>((QaH.f p0_0 bt3.2.1 bt3.2.2).bind fun bt4=>((QaH.f p0_0 bt4.2.1 bt4.2.2).bind fun bt5=>(if a1=0 then none else (some (Int.tmod (wrap64 ((wrap64 ((wrap64 ((wrap64 (bt2.1 * 16777216))+(wrap64 (bt3.1 * 65536))))+(wrap64 (bt4.1 * 256))))+bt5.1)) a1,bt5.2.1,bt5.2.2))))))))
theorem QC.link {p0_0:List Int} {p0_1:Int} {p0_2:Int} {a1:Int} {r:Int×Int×Int} (H:QC.f p0_0 p0_1 p0_2 a1=some r):Qao env 107 [.deep true false 3 [[.deep false true 1 (p0_0.map e8), .i .i64 p0_1, .i .i64 p0_2]], .i .i64 a1]=some ([.i .i64 r.1],[some [[.deep false true 1 (p0_0.map e8), .i .i64 r.2.1, .i .i64 r.2.2]]]):=by
 unfold QC.f at H
 refine QM (F:=QC.F) (tm:=Qav [(0, .ptr 0 [] 0 0 0),(1, .i .i64 a1)]) (rs:=rsL [(0,some ⟨true,3,0,[[.deep false true 1 (p0_0.map e8), .i .i64 p0_1, .i .i64 p0_2]]⟩)]) (nx:=1) (ow:=[true]) rfl (by rfl) (by simp only [SN]) (by simp only [SN]) (by decide) ?_
 show W env QC.B _ (Qf [.t 4] [true] _)
 unfold QC.B
 try simp only [TN,simprocAttr, *]
 rcases Qad H with ⟨h1,H⟩|⟨h1,H⟩
 ·skip
  injection H with H;subst H
  try simp only [TN,simprocAttr, *]
  try rfl
 ·skip
  try simp only [TN,simprocAttr, *]
  rcases Qad H with ⟨h2,H⟩|⟨h2,H⟩
  ·skip
   obtain ⟨bt1,e3,H⟩:=Qp H
   have e3:=QaH.link e3
   obtain ⟨h4,H⟩:=Qrc H
   injection H with H;subst H
   try simp only [TN,simprocAttr, *]
   try rfl
  ·skip
   obtain ⟨bt2,e5,H⟩:=Qp H
   have e5:=QaH.link e5
   obtain ⟨bt3,e6,H⟩:=Qp H
   have e6:=QaH.link e6
   obtain ⟨bt4,e7,H⟩:=Qp H
   have e7:=QaH.link e7
   obtain ⟨bt5,e8,H⟩:=Qp H
   have e8:=QaH.link e8
   obtain ⟨h9,H⟩:=Qrc H
   injection H with H;subst H
   try simp only [TN,simprocAttr, *]
   try rfl
end Go.Proofs.YtallpjhkmcgpoaaGreat.P
end
section
namespace Go.Proofs.YtallpjhkmcgpoaaGreat.P
open Go Go.RowKit Go.Proofs.YtallpjhkmcgpoaaGreat.V
def Qa0.f (p0_0:List Int) (p0_1:Int) (p0_2:Int) (a1:Int):Option (Bool×Int×Int):=(QC.f p0_0 p0_1 p0_2 a1).bind fun bt1=>(some ((bt1.1 == 0),bt1.2.1,bt1.2.2))
theorem Qa0.link {p0_0:List Int} {p0_1:Int} {p0_2:Int} {a1:Int} {r:Bool×Int×Int} (H:Qa0.f p0_0 p0_1 p0_2 a1=some r):Qao env 104 [.deep true false 3 [[.deep false true 1 (p0_0.map e8), .i .i64 p0_1, .i .i64 p0_2]], .i .i64 a1]=some ([.b r.1],[some [[.deep false true 1 (p0_0.map e8), .i .i64 r.2.1, .i .i64 r.2.2]]]):=by
 unfold Qa0.f at H
 refine QM (F:=Qa0.F) (tm:=Qav [(0, .ptr 0 [] 0 0 0),(1, .i .i64 a1)]) (rs:=rsL [(0,some ⟨true,3,0,[[.deep false true 1 (p0_0.map e8), .i .i64 p0_1, .i .i64 p0_2]]⟩)]) (nx:=1) (ow:=[true]) rfl (by rfl) (by simp only [SN]) (by simp only [SN]) (by decide) ?_
 show W env Qa0.B _ (Qf [.t 4] [true] _)
 unfold Qa0.B
 obtain ⟨bt1,e1,H⟩:=Qp H
 have e1:=QC.link e1
 injection H with H;subst H
 try simp only [TN,simprocAttr, *]
 try rfl
end Go.Proofs.YtallpjhkmcgpoaaGreat.P
end
section
namespace Go.Proofs.YtallpjhkmcgpoaaGreat.P
open Go Go.RowKit Go.Proofs.YtallpjhkmcgpoaaGreat.V
def Qak.f (p0_0:List Int) (p0_1:Int) (p0_2:Int):Option (Int×Int×Int):=(QC.f p0_0 p0_1 p0_2 4).bind fun bt1=>(some (bt1.1,bt1.2.1,bt1.2.2))
theorem Qak.link {p0_0:List Int} {p0_1:Int} {p0_2:Int} {r:Int×Int×Int} (H:Qak.f p0_0 p0_1 p0_2=some r):Qao env 123 [.deep true false 3 [[.deep false true 1 (p0_0.map e8), .i .i64 p0_1, .i .i64 p0_2]]]=some ([.i .i64 r.1],[some [[.deep false true 1 (p0_0.map e8), .i .i64 r.2.1, .i .i64 r.2.2]]]):=by
 unfold Qak.f at H
 refine QM (F:=Qak.F) (tm:=Qav [(0, .ptr 0 [] 0 0 0)]) (rs:=rsL [(0,some ⟨true,3,0,[[.deep false true 1 (p0_0.map e8), .i .i64 p0_1, .i .i64 p0_2]]⟩)]) (nx:=1) (ow:=[true]) rfl (by rfl) (by simp only [SN]) (by simp only [SN]) (by decide) ?_
 show W env Qak.B _ (Qf [.t 2] [true] _)
 unfold Qak.B
 obtain ⟨bt1,e1,H⟩:=Qp H
 have e1:=QC.link e1
 injection H with H;subst H
 try simp only [TN,simprocAttr, *]
 try rfl
end Go.Proofs.YtallpjhkmcgpoaaGreat.P
end
section
namespace Go.Proofs.YtallpjhkmcgpoaaGreat.P
open Go Go.RowKit Go.Proofs.YtallpjhkmcgpoaaGreat.V
def QN.l0:Nat→(List S38)→Int→(List Int)→Int→Int→Option ((List S38)×Int×Int)
 | 0,_,_,_,_,_=>none
 | k+1,x5,x6,p0_0,c0_1,c0_2=>if x6 > 0 then (if 0≤wrap64 ((x5.length:Int)-1) then (if wrap64 ((x5.length:Int)-1)<(x5.length:Int) then ((QC.f p0_0 c0_1 c0_2 (wrap64 (((Qac x5 (wrap64 ((x5.length:Int)-1))).f1)+1))).bind fun bt3=>((Qa0.f p0_0 bt3.2.1 bt3.2.2 2).bind fun bt4=>(if bt4.1=true then (if (wrap64 (((Qac x5 (wrap64 ((x5.length:Int)-1))).f1)+1)) > 12 then ((Qak.f p0_0 bt4.2.1 bt4.2.2).bind fun bt5=>(if x5.length<8796093022208 then (QN.l0 k (x5++([(⟨bt5.1,1⟩:S38)])) (wrap64 (x6-1)) p0_0 bt5.2.1 bt5.2.2) else none)) else ((Qak.f p0_0 bt4.2.1 bt4.2.2).bind fun bt6=>(if x5.length<8796093022208 then (QN.l0 k (x5++([(⟨bt6.1,wrap64 (((Qac x5 (wrap64 ((x5.length:Int)-1))).f1)+1)⟩:S38)])) (wrap64 (x6-1)) p0_0 bt6.2.1 bt6.2.2) else none))) else (if (wrap64 (1+bt3.1)) > 12 then ((Qak.f p0_0 bt4.2.1 bt4.2.2).bind fun bt7=>(if x5.length<8796093022208 then (QN.l0 k (x5++([(⟨bt7.1,1⟩:S38)])) (wrap64 (x6-1)) p0_0 bt7.2.1 bt7.2.2) else none)) else ((Qak.f p0_0 bt4.2.1 bt4.2.2).bind fun bt8=>(if x5.length<8796093022208 then (QN.l0 k (x5++([(⟨bt8.1,wrap64 (1+bt3.1)⟩:S38)])) (wrap64 (x6-1)) p0_0 bt8.2.1 bt8.2.2) else none)))))) else none) else none) else (some (x5,c0_1,c0_2))
def QN.f (k:Nat) (p0_0:List Int) (p0_1:Int) (p0_2:Int) (a1:Int):Option ((List S38)×Int×Int):=(Qak.f p0_0 p0_1 p0_2).bind fun bt1=>((QC.f p0_0 bt1.2.1 bt1.2.2 a1).bind fun bt2=>(QN.l0 k ([(⟨bt1.1,0⟩:S38)]) bt2.1 p0_0 bt2.2.1 bt2.2.2))
def QN.P0 (k:Nat):Prop:=∀ (x5:List S38) (x6:Int) (p0_0:List Int) (c0_1:Int) (c0_2:Int) (r:(List S38)×Int×Int),QN.l0 k x5 x6 p0_0 c0_1 c0_2=some r→∀ st,canon 1 [0,5,6] st=⟨Qav [(0, .ptr 0 [] 0 0 0),(5, .slc 1 [] 0 2 0 x5.length),(6, .i .i64 x6)],rsL [(0,some ⟨true,3,0,[[.deep false true 1 (p0_0.map e8), .i .i64 c0_1, .i .i64 c0_2]]⟩),(1,some ⟨true,2,0,(x5.map e38)⟩)],2⟩→W env QN.c1 st (Qb 0 (Qs env QN.c0 (Qf [.t 4] [true] ([.deep false false 2 (r.1.map e38)],[some [[.deep false true 1 (p0_0.map e8), .i .i64 r.2.1, .i .i64 r.2.2]]]))))
theorem QN.s0 (k:Nat) (ih:QN.P0 k):QN.P0 (k+1):=by
 intro x5 x6 p0_0 c0_1 c0_2 r H st hst
 rw [QN.l0] at H
 rw [Qat (show QN.c1=C.loop 1 [0,5,6] QN.d1 from rfl),hst]
 unfold QN.d1
 try simp only [TN,simprocAttr, *, QN.c0]
 rcases Qad H with ⟨h1,H⟩|⟨h1,H⟩
 ·skip
  obtain ⟨h2,h3,H⟩:=i2 H
  obtain ⟨bt3,e4,H⟩:=Qp H
  have e4:=QC.link e4
  obtain ⟨bt4,e5,H⟩:=Qp H
  have e5:=Qa0.link e5
  try simp only [TN,simprocAttr, *, QN.c0]
  rcases QaN H with ⟨h6,H⟩|⟨h6,H⟩
  ·skip
   try simp only [TN,simprocAttr, *, QN.c0]
   rcases Qad H with ⟨h7,H⟩|⟨h7,H⟩
   ·skip
    obtain ⟨bt5,e8,H⟩:=Qp H
    have e8:=Qak.link e8
    obtain ⟨h9,H⟩:=i1 H
    have h10:(x5.length+1) * 16≤140737488355328:=by omega
    try simp only [TN,simprocAttr, *, QN.c0,@Qcf]
    refine ih _ _ _ _ _ _ H _ ?_
    first|(rw [Qc];done)|(rw [Qc];rfl)|(rw [Qc];simp only [LL];rfl)
   ·skip
    obtain ⟨bt6,e11,H⟩:=Qp H
    have e11:=Qak.link e11
    obtain ⟨h12,H⟩:=i1 H
    have h13:(x5.length+1) * 16≤140737488355328:=by omega
    try simp only [TN,simprocAttr, *, QN.c0,@Qcf]
    refine ih _ _ _ _ _ _ H _ ?_
    first|(rw [Qc];done)|(rw [Qc];rfl)|(rw [Qc];simp only [LL];rfl)
  ·skip
   try simp only [TN,simprocAttr, *, QN.c0]
   rcases Qad H with ⟨h14,H⟩|⟨h14,H⟩
   ·skip
    obtain ⟨bt7,e15,H⟩:=Qp H
    have e15:=Qak.link e15
    obtain ⟨h16,H⟩:=i1 H
    have h17:(x5.length+1) * 16≤140737488355328:=by omega
    try simp only [TN,simprocAttr, *, QN.c0,@Qcf]
    refine ih _ _ _ _ _ _ H _ ?_
    first|(rw [Qc];done)|(rw [Qc];rfl)|(rw [Qc];simp only [LL];rfl)
   ·skip
    obtain ⟨bt8,e18,H⟩:=Qp H
    have e18:=Qak.link e18
    obtain ⟨h19,H⟩:=i1 H
    have h20:(x5.length+1) * 16≤140737488355328:=by omega
    try simp only [TN,simprocAttr, *, QN.c0,@Qcf]
    refine ih _ _ _ _ _ _ H _ ?_
    first|(rw [Qc];done)|(rw [Qc];rfl)|(rw [Qc];simp only [LL];rfl)
 ·skip
  injection H with H;subst H
  try simp only [TN,simprocAttr, *, QN.c0]
  try rfl
theorem QN.w:∀ k,QN.P0 k:=by
 intro k
 induction k with
 | zero=>exact by intro x5 x6 p0_0 c0_1 c0_2 r H;cases (show (none:Option ((List S38)×Int×Int))=some r from H)
 | succ k ih=>exact QN.s0 k ih
theorem QN.link {k:Nat} {p0_0:List Int} {p0_1:Int} {p0_2:Int} {a1:Int} {r:(List S38)×Int×Int} (H:QN.f k p0_0 p0_1 p0_2 a1=some r):Qao env 103 [.deep true false 3 [[.deep false true 1 (p0_0.map e8), .i .i64 p0_1, .i .i64 p0_2]], .i .i64 a1]=some ([.deep false false 2 (r.1.map e38)],[some [[.deep false true 1 (p0_0.map e8), .i .i64 r.2.1, .i .i64 r.2.2]]]):=by
 unfold QN.f at H
 refine QM (F:=QN.F) (tm:=Qav [(0, .ptr 0 [] 0 0 0),(1, .i .i64 a1)]) (rs:=rsL [(0,some ⟨true,3,0,[[.deep false true 1 (p0_0.map e8), .i .i64 p0_1, .i .i64 p0_2]]⟩)]) (nx:=1) (ow:=[true]) rfl (by rfl) (by simp only [SN]) (by simp only [SN]) (by decide) ?_
 show W env QN.B _ (Qf [.t 4] [true] _)
 unfold QN.B
 obtain ⟨bt1,e1,H⟩:=Qp H
 have e1:=Qak.link e1
 obtain ⟨bt2,e2,H⟩:=Qp H
 have e2:=QC.link e2
 try simp only [TN,simprocAttr, *, QN.c0,@Qcf]
 refine (QN.w k) _ _ _ _ _ _ H _ ?_
 first|(rw [Qc];done)|(rw [Qc];rfl)|(rw [Qc];simp only [LL];rfl)
end Go.Proofs.YtallpjhkmcgpoaaGreat.P
end
section
namespace Go.Proofs.YtallpjhkmcgpoaaGreat.P
open Go Go.RowKit Go.Proofs.YtallpjhkmcgpoaaGreat.V
def Qaw.f (a0:Int) (a1:Int) (a2:Int):Option Bool:=if a0≥a1 then (some (decide (a0≤a2))) else (some false)
theorem Qaw.link {a0:Int} {a1:Int} {a2:Int} {r:Bool} (H:Qaw.f a0 a1 a2=some r):Qao env 85 [.i .i64 a0, .i .i64 a1, .i .i64 a2]=some ([.b r],[]):=by
 unfold Qaw.f at H
 refine QM (F:=Qaw.F) (tm:=Qav [(0, .i .i64 a0),(1, .i .i64 a1),(2, .i .i64 a2)]) (rs:=rsL []) (nx:=0) (ow:=[]) rfl (by rfl) (by simp only [SN]) (by simp only [SN]) (by decide) ?_
 show W env Qaw.B _ (Qf [.t 6] [] _)
 unfold Qaw.B
 try simp only [TN,simprocAttr, *]
 rcases Qad H with ⟨h1,H⟩|⟨h1,H⟩
 ·skip
  injection H with H;subst H
  try simp only [TN,simprocAttr, *]
  try rfl
 ·skip
  injection H with H;subst H
  try simp only [TN,simprocAttr, *]
  try rfl
end Go.Proofs.YtallpjhkmcgpoaaGreat.P
end
section
namespace Go.Proofs.YtallpjhkmcgpoaaGreat.P
open Go Go.RowKit Go.Proofs.YtallpjhkmcgpoaaGreat.V
def QaI.f (a0:Int):Option Bool:=(Qaw.f a0 0 5).bind fun t1=>(some t1)
theorem QaI.link {a0:Int} {r:Bool} (H:QaI.f a0=some r):Qao env 87 [.i .i64 a0]=some ([.b r],[]):=by
 unfold QaI.f at H
 refine QM (F:=QaI.F) (tm:=Qav [(0, .i .i64 a0)]) (rs:=rsL []) (nx:=0) (ow:=[]) rfl (by rfl) (by simp only [SN]) (by simp only [SN]) (by decide) ?_
 show W env QaI.B _ (Qf [.t 2] [] _)
 unfold QaI.B
 obtain ⟨t1,e1,H⟩:=Qp H
 have e1:=Qaw.link e1
 injection H with H;subst H
 try simp only [TN,simprocAttr, *]
 try rfl
end Go.Proofs.YtallpjhkmcgpoaaGreat.P
end
section
namespace Go.Proofs.YtallpjhkmcgpoaaGreat.P
open Go Go.RowKit Go.Proofs.YtallpjhkmcgpoaaGreat.V
def QG.l0:Nat→(List S38)→Int→Option Bool
 | 0,_,_=>none
 | k+1,l0,x3=>if x3<(l0.length:Int) then (if 0≤x3 then ((QaI.f ((Qac l0 x3).f0)).bind fun t1=>(if t1=true then ((Qaw.f ((Qac l0 x3).f1) 0 12).bind fun t2=>(if t2=true then (if (decide (((Qac l0 x3).f1)=0))=(decide (x3=0)) then (if x3 > 0 then (if 0≤wrap64 (x3-1) then (if wrap64 (x3-1)<(l0.length:Int) then (if ((Qac l0 x3).f1) > (wrap64 (((Qac l0 (wrap64 (x3-1))).f1)+1)) then (some false) else (QG.l0 k l0 (wrap64 (x3+1)))) else none) else none) else (QG.l0 k l0 (wrap64 (x3+1)))) else (some false)) else (some false))) else (some false))) else none) else ((Qaw.f (l0.length:Int) 1 24).bind fun t3=>(some t3))
def QG.f (k:Nat) (l0:List S38):Option Bool:=QG.l0 k l0 0
def QG.P0 (k:Nat):Prop:=∀ (l0:List S38) (x3:Int) (r:Bool),QG.l0 k l0 x3=some r→∀ st,canon 1 [0,3] st=⟨Qav [(0, .slc 0 [] 0 2 0 l0.length),(3, .i .i64 x3)],rsL [(0,some ⟨false,2,0,(l0.map e38)⟩)],1⟩→W env QG.c1 st (Qb 0 (Qs env QG.c0 (Qf [.t 2] [false] ([.b r],[none]))))
theorem QG.s0 (k:Nat) (ih:QG.P0 k):QG.P0 (k+1):=by
 intro l0 x3 r H st hst
 rw [QG.l0] at H
 rw [Qat (show QG.c1=C.loop 1 [0,3] QG.d1 from rfl),hst]
 unfold QG.d1
 try simp only [TN,simprocAttr, *, QG.c0]
 rcases Qad H with ⟨h1,H⟩|⟨h1,H⟩
 ·skip
  obtain ⟨h2,H⟩:=i1 H
  obtain ⟨t1,e3,H⟩:=Qp H
  have e3:=QaI.link e3
  try simp only [TN,simprocAttr, *, QG.c0]
  rcases QaN H with ⟨h4,H⟩|⟨h4,H⟩
  ·skip
   obtain ⟨t2,e5,H⟩:=Qp H
   have e5:=Qaw.link e5
   try simp only [TN,simprocAttr, *, QG.c0]
   rcases QaN H with ⟨h6,H⟩|⟨h6,H⟩
   ·skip
    try simp only [TN,simprocAttr, *, QG.c0]
    rcases ioq H with ⟨h7,H⟩|⟨h7,H⟩
    ·skip
     try simp only [TN,simprocAttr, *, QG.c0]
     rcases Qad H with ⟨h8,H⟩|⟨h8,H⟩
     ·skip
      obtain ⟨h9,h10,H⟩:=i2 H
      try simp only [TN,simprocAttr, *, QG.c0]
      rcases Qad H with ⟨h11,H⟩|⟨h11,H⟩
      ·skip
       injection H with H;subst H
       try simp only [TN,simprocAttr, *, QG.c0]
       try rfl
      ·skip
       try simp only [TN,simprocAttr, *, QG.c0]
       refine ih _ _ _ H _ ?_
       first|(rw [Qc];done)|(rw [Qc];rfl)|(rw [Qc];simp only [LL];rfl)
     ·skip
      try simp only [TN,simprocAttr, *, QG.c0]
      refine ih _ _ _ H _ ?_
      first|(rw [Qc];done)|(rw [Qc];rfl)|(rw [Qc];simp only [LL];rfl)
    ·skip
     injection H with H;subst H
     try simp only [TN,simprocAttr, *, QG.c0]
     try rfl
   ·skip
    injection H with H;subst H
    try simp only [TN,simprocAttr, *, QG.c0]
    try rfl
  ·skip
   injection H with H;subst H
   try simp only [TN,simprocAttr, *, QG.c0]
   try rfl
 ·skip
  obtain ⟨t3,e12,H⟩:=Qp H
  have e12:=Qaw.link e12
  injection H with H;subst H
  try simp only [TN,simprocAttr, *, QG.c0]
  try rfl
theorem QG.w:∀ k,QG.P0 k:=by
 intro k
 induction k with
 | zero=>exact by intro l0 x3 r H;cases (show (none:Option Bool)=some r from H)
 | succ k ih=>exact QG.s0 k ih
theorem QG.link {k:Nat} {l0:List S38} {r:Bool} (H:QG.f k l0=some r):Qao env 45 [.deep false true 2 (l0.map e38)]=some ([.b r],[none]):=by
 unfold QG.f at H
 refine QM (F:=QG.F) (tm:=Qav [(0, .slc 0 [] 0 2 0 l0.length)]) (rs:=rsL [(0,some ⟨false,2,0,(l0.map e38)⟩)]) (nx:=1) (ow:=[false]) rfl (by rfl) (by simp only [SN]) (by simp only [SN]) (by decide) ?_
 show W env QG.B _ (Qf [.t 2] [false] _)
 unfold QG.B
 try simp only [TN,simprocAttr, *, QG.c0]
 refine (QG.w k) _ _ _ H _ ?_
 first|(rw [Qc];done)|(rw [Qc];rfl)|(rw [Qc];simp only [LL];rfl)
end Go.Proofs.YtallpjhkmcgpoaaGreat.P
end
section
namespace Go.Proofs.YtallpjhkmcgpoaaGreat.P
open Go Go.RowKit Go.Proofs.YtallpjhkmcgpoaaGreat.V
def QaL.f (l0:List S38):Option (List S38):=if l0.length * 16≤140737488355328 then (some l0) else none
theorem QaL.link {l0:List S38} {r:(List S38)} (H:QaL.f l0=some r):Qao env 58 [.deep false true 2 (l0.map e38)]=some ([.deep false false 2 (r.map e38)],[none]):=by
 unfold QaL.f at H
 refine QM (F:=QaL.F) (tm:=Qav [(0, .slc 0 [] 0 2 0 l0.length)]) (rs:=rsL [(0,some ⟨false,2,0,(l0.map e38)⟩)]) (nx:=1) (ow:=[false]) rfl (by rfl) (by simp only [SN]) (by simp only [SN]) (by decide) ?_
 show W env QaL.B _ (Qf [.t 2] [false] _)
 unfold QaL.B
 obtain ⟨h1,H⟩:=i1 H
 injection H with H;subst H
 try simp only [TN,simprocAttr, *]
 try rfl
end Go.Proofs.YtallpjhkmcgpoaaGreat.P
end
section
namespace Go.Proofs.YtallpjhkmcgpoaaGreat.P
open Go Go.RowKit Go.Proofs.YtallpjhkmcgpoaaGreat.V
def QJ.l0:Nat→(List S38)→Int→(List Int)→Int→Int→(List S38)→Option ((List S38)×Int×Int)
 | 0,_,_,_,_,_,_=>none
 | k+1,x5,x6,p0_0,c0_1,c0_2,l1=>if x6 > 0 then (if (x5.length:Int) > 0 then ((QC.f p0_0 c0_1 c0_2 (x5.length:Int)).bind fun bt3=>((QC.f p0_0 bt3.2.1 bt3.2.2 3).bind fun bt4=>(if bt4.1=0 then ((Qak.f p0_0 bt4.2.1 bt4.2.2).bind fun bt5=>(if 0≤bt3.1 then (if bt3.1<(x5.length:Int) then (QJ.l0 k (x5.set (bt3.1:Int).toNat (⟨bt5.1,(Qac x5 bt3.1).f1⟩:S38)) (wrap64 (x6-1)) p0_0 bt5.2.1 bt5.2.2 l1) else none) else none)) else (if bt4.1=1 then (if bt3.1 > 0 then (if (x5.length:Int) > 1 then (if bt3.1≤(x5.length:Int) then (if 0≤bt3.1 then ((some (x5.take (bt3.1:Int).toNat:List S38)).bind fun y1=>(if 0≤wrap64 (bt3.1+1) then (if wrap64 (bt3.1+1)≤(x5.length:Int) then ((some (x5.drop (wrap64 (bt3.1+1):Int).toNat:List S38)).bind fun y2=>((QaL.f y1).bind fun t6=>(if (t6.length+y2.length) * 16≤140737488355328 then (QJ.l0 k (t6++y2) (wrap64 (x6-1)) p0_0 bt4.2.1 bt4.2.2 l1) else none))) else none) else none)) else none) else none) else (QJ.l0 k x5 (wrap64 (x6-1)) p0_0 bt4.2.1 bt4.2.2 l1)) else (QJ.l0 k x5 (wrap64 (x6-1)) p0_0 bt4.2.1 bt4.2.2 l1)) else (if 0≤wrap64 ((x5.length:Int)-1) then (if wrap64 ((x5.length:Int)-1)<(x5.length:Int) then ((QaL.f x5).bind fun t7=>((Qak.f p0_0 bt4.2.1 bt4.2.2).bind fun bt8=>((QC.f p0_0 bt8.2.1 bt8.2.2 (wrap64 (((Qac x5 (wrap64 ((x5.length:Int)-1))).f1)+1))).bind fun bt9=>(if t7.length<8796093022208 then (QJ.l0 k (t7++([(⟨bt8.1,wrap64 (1+bt9.1)⟩:S38)])) (wrap64 (x6-1)) p0_0 bt9.2.1 bt9.2.2 l1) else none)))) else none) else none))))) else ((QG.f k x5).bind fun t10=>(if t10=true then (some (x5,c0_1,c0_2)) else ((QN.f k p0_0 c0_1 c0_2 8).bind fun bt11=>(some (bt11.1,bt11.2.1,bt11.2.2)))))) else ((QG.f k x5).bind fun t12=>(if t12=true then (some (x5,c0_1,c0_2)) else ((QN.f k p0_0 c0_1 c0_2 8).bind fun bt13=>(some (bt13.1,bt13.2.1,bt13.2.2)))))
def QJ.f (k:Nat) (p0_0:List Int) (p0_1:Int) (p0_2:Int) (l1:List S38):Option ((List S38)×Int×Int):=(QaL.f l1).bind fun t1=>((QC.f p0_0 p0_1 p0_2 3).bind fun bt2=>(QJ.l0 k t1 (wrap64 (1+bt2.1)) p0_0 bt2.2.1 bt2.2.2 l1))
def QJ.P0 (k:Nat):Prop:=∀ (x5:List S38) (x6:Int) (p0_0:List Int) (c0_1:Int) (c0_2:Int) (l1:List S38) (r:(List S38)×Int×Int),QJ.l0 k x5 x6 p0_0 c0_1 c0_2 l1=some r→∀ st,canon 2 [0,5,6] st=⟨Qav [(0, .ptr 0 [] 0 0 0),(5, .slc 2 [] 0 2 0 x5.length),(6, .i .i64 x6)],rsL [(0,some ⟨true,3,0,[[.deep false true 1 (p0_0.map e8), .i .i64 c0_1, .i .i64 c0_2]]⟩),(1,some ⟨true,2,0,(l1.map e38)⟩),(2,some ⟨true,2,0,(x5.map e38)⟩)],3⟩→W env QJ.c1 st (Qb 0 (Qs env QJ.c0 (Qf [.t 4] [true,true] ([.deep false false 2 (r.1.map e38)],[some [[.deep false true 1 (p0_0.map e8), .i .i64 r.2.1, .i .i64 r.2.2]],some (l1.map e38)]))))
theorem QJ.s0 (k:Nat) (ih:QJ.P0 k):QJ.P0 (k+1):=by
 intro x5 x6 p0_0 c0_1 c0_2 l1 r H st hst
 rw [QJ.l0] at H
 rw [Qat (show QJ.c1=C.loop 2 [0,5,6] QJ.d1 from rfl),hst]
 unfold QJ.d1
 try simp only [TN,simprocAttr, *, QJ.c0]
 rcases Qad H with ⟨h1,H⟩|⟨h1,H⟩
 ·skip
  try simp only [TN,simprocAttr, *, QJ.c0]
  rcases Qad H with ⟨h2,H⟩|⟨h2,H⟩
  ·skip
   obtain ⟨bt3,e3,H⟩:=Qp H
   have e3:=QC.link e3
   obtain ⟨bt4,e4,H⟩:=Qp H
   have e4:=QC.link e4
   try simp only [TN,simprocAttr, *, QJ.c0]
   rcases ioq H with ⟨h5,H⟩|⟨h5,H⟩
   ·skip
    obtain ⟨bt5,e6,H⟩:=Qp H
    have e6:=Qak.link e6
    obtain ⟨h7,h8,H⟩:=i2 H
    try simp only [TN,simprocAttr, *, QJ.c0]
    refine ih _ _ _ _ _ _ _ H _ ?_
    first|(rw [Qc];done)|(rw [Qc];rfl)|(rw [Qc];simp only [LL];rfl)
   ·skip
    try simp only [TN,simprocAttr, *, QJ.c0]
    rcases ioq H with ⟨h9,H⟩|⟨h9,H⟩
    ·skip
     try simp only [TN,simprocAttr, *, QJ.c0]
     rcases Qad H with ⟨h10,H⟩|⟨h10,H⟩
     ·skip
      try simp only [TN,simprocAttr, *, QJ.c0]
      rcases Qad H with ⟨h11,H⟩|⟨h11,H⟩
      ·skip
       obtain ⟨h12,h13,H⟩:=i2 H
       obtain ⟨y1,hy1,H⟩:=Qci H
       have h14:(bt3.1:Int).toNat=List.length y1:=by rw [←hy1];simp only [List.length_drop,List.length_take] <;> omega
       have cw14:(List.drop (0) x5).take (List.length y1)=y1:=by rw [←h14,List.drop_zero];exact hy1
       have g14:∀ {j:Int}, 0≤j→j<(List.length y1:Int)→(x5.map e38)[0+j.toNat]? = some (e38 (Qac y1 j)):=fun h1 h2=>Qf0 cw14 h1 h2
       have w14:=QcT (e:=e38) cw14
       have z14:0≤bt3.1→bt3.1<(List.length x5:Int)→(x5.map e38)[0+List.length y1]? = some (e38 (Qac x5 bt3.1)):=fun h1 h2=>by rw [←h14];exact Qb1 h1 h2
       obtain ⟨h15,h16,H⟩:=i2 H
       obtain ⟨y2,hy2,H⟩:=Qci H
       have h17:x5.length-(wrap64 (bt3.1+1):Int).toNat=List.length y2:=by rw [←hy2];simp only [List.length_drop,List.length_take] <;> omega
       have cw17:(List.drop (0+(wrap64 (bt3.1+1):Int).toNat) x5).take (List.length y2)=y2:=by rw [Nat.zero_add, ←hy2];exact List.take_length
       have g17:∀ {j:Int}, 0≤j→j<(List.length y2:Int)→(x5.map e38)[0+(wrap64 (bt3.1+1):Int).toNat+j.toNat]? = some (e38 (Qac y2 j)):=fun h1 h2=>Qf0 cw17 h1 h2
       have w17:=QcT (e:=e38) cw17
       obtain ⟨t6,e18,H⟩:=Qp H
       have e18:=QaL.link e18
       obtain ⟨h19,H⟩:=i1 H
       try simp only [TN,simprocAttr, *, QJ.c0]
       refine ih _ _ _ _ _ _ _ H _ ?_
       first|(rw [Qc];done)|(rw [Qc];rfl)|(rw [Qc];simp only [LL];rfl)
      ·skip
       try simp only [TN,simprocAttr, *, QJ.c0]
       refine ih _ _ _ _ _ _ _ H _ ?_
       first|(rw [Qc];done)|(rw [Qc];rfl)|(rw [Qc];simp only [LL];rfl)
     ·skip
      try simp only [TN,simprocAttr, *, QJ.c0]
      refine ih _ _ _ _ _ _ _ H _ ?_
      first|(rw [Qc];done)|(rw [Qc];rfl)|(rw [Qc];simp only [LL];rfl)
    ·skip
     obtain ⟨h20,h21,H⟩:=i2 H
     obtain ⟨t7,e22,H⟩:=Qp H
     have e22:=QaL.link e22
     obtain ⟨bt8,e23,H⟩:=Qp H
     have e23:=Qak.link e23
     obtain ⟨bt9,e24,H⟩:=Qp H
     have e24:=QC.link e24
     obtain ⟨h25,H⟩:=i1 H
     have h26:(t7.length+1) * 16≤140737488355328:=by omega
     try simp only [TN,simprocAttr, *, QJ.c0,@Qcf]
     refine ih _ _ _ _ _ _ _ H _ ?_
     first|(rw [Qc];done)|(rw [Qc];rfl)|(rw [Qc];simp only [LL];rfl)
  ·skip
   obtain ⟨t10,e27,H⟩:=Qp H
   have e27:=QG.link e27
   try simp only [TN,simprocAttr, *, QJ.c0]
   rcases QaN H with ⟨h28,H⟩|⟨h28,H⟩
   ·skip
    injection H with H;subst H
    try simp only [TN,simprocAttr, *, QJ.c0]
    try rfl
   ·skip
    obtain ⟨bt11,e29,H⟩:=Qp H
    have e29:=QN.link e29
    injection H with H;subst H
    try simp only [TN,simprocAttr, *, QJ.c0]
    try rfl
 ·skip
  obtain ⟨t12,e30,H⟩:=Qp H
  have e30:=QG.link e30
  try simp only [TN,simprocAttr, *, QJ.c0]
  rcases QaN H with ⟨h31,H⟩|⟨h31,H⟩
  ·skip
   injection H with H;subst H
   try simp only [TN,simprocAttr, *, QJ.c0]
   try rfl
  ·skip
   obtain ⟨bt13,e32,H⟩:=Qp H
   have e32:=QN.link e32
   injection H with H;subst H
   try simp only [TN,simprocAttr, *, QJ.c0]
   try rfl
theorem QJ.w:∀ k,QJ.P0 k:=by
 intro k
 induction k with
 | zero=>exact by intro x5 x6 p0_0 c0_1 c0_2 l1 r H;cases (show (none:Option ((List S38)×Int×Int))=some r from H)
 | succ k ih=>exact QJ.s0 k ih
theorem QJ.link {k:Nat} {p0_0:List Int} {p0_1:Int} {p0_2:Int} {l1:List S38} {r:(List S38)×Int×Int} (H:QJ.f k p0_0 p0_1 p0_2 l1=some r):Qao env 105 [.deep true false 3 [[.deep false true 1 (p0_0.map e8), .i .i64 p0_1, .i .i64 p0_2]], .deep false false 2 (l1.map e38)]=some ([.deep false false 2 (r.1.map e38)],[some [[.deep false true 1 (p0_0.map e8), .i .i64 r.2.1, .i .i64 r.2.2]],some (l1.map e38)]):=by
 unfold QJ.f at H
 refine QM (F:=QJ.F) (tm:=Qav [(0, .ptr 0 [] 0 0 0),(1, .slc 1 [] 0 2 0 l1.length)]) (rs:=rsL [(0,some ⟨true,3,0,[[.deep false true 1 (p0_0.map e8), .i .i64 p0_1, .i .i64 p0_2]]⟩),(1,some ⟨true,2,0,(l1.map e38)⟩)]) (nx:=2) (ow:=[true,true]) rfl (by rfl) (by simp only [SN]) (by simp only [SN]) (by decide) ?_
 show W env QJ.B _ (Qf [.t 4] [true,true] _)
 unfold QJ.B
 obtain ⟨t1,e1,H⟩:=Qp H
 have e1:=QaL.link e1
 obtain ⟨bt2,e2,H⟩:=Qp H
 have e2:=QC.link e2
 try simp only [TN,simprocAttr, *, QJ.c0]
 refine (QJ.w k) _ _ _ _ _ _ _ H _ ?_
 first|(rw [Qc];done)|(rw [Qc];rfl)|(rw [Qc];simp only [LL];rfl)
end Go.Proofs.YtallpjhkmcgpoaaGreat.P
end
section
namespace Go.Proofs.YtallpjhkmcgpoaaGreat.P
open Go Go.RowKit Go.Proofs.YtallpjhkmcgpoaaGreat.V
mutual
def Qr.l0:Nat→Int→(List Int)→(List Int)→(List Int)→(List Int)→(List Int)→(List Int)→Option ((List Int)×(List Int)×(List Int))
 | 0,_,_,_,_,_,_,_=>none
 | k+1,x2,c0_0,c0_1,c0_2,c1_0,c1_1,c1_2=>if x2<6 then (if c1_0.length<17592186044416 then (if c1_1.length<17592186044416 then (Qr.l1 k x2 0 c0_0 c0_1 c0_2 (c1_0++([1])) (c1_1++([1])) c1_2) else none) else none) else (some (c1_0,c1_1,c1_2))
def Qr.l1:Nat→Int→Int→(List Int)→(List Int)→(List Int)→(List Int)→(List Int)→(List Int)→Option ((List Int)×(List Int)×(List Int))
 | 0,_,_,_,_,_,_,_,_=>none
 | k+1,x2,x3,c0_0,c0_1,c0_2,c1_0,c1_1,c1_2=>if x3<6 then (if x2=x3 then (if c1_2.length<17592186044416 then (Qr.l1 k x2 (wrap64 (x3+1)) c0_0 c0_1 c0_2 c1_0 c1_1 (c1_2++([0]))) else none) else (if c1_2.length<17592186044416 then (Qr.l1 k x2 (wrap64 (x3+1)) c0_0 c0_1 c0_2 c1_0 c1_1 (c1_2++([1]))) else none)) else (Qr.l0 k (wrap64 (x2+1)) c0_0 c0_1 c0_2 c1_0 c1_1 c1_2)
end
def Qr.f (k:Nat):Option ((List Int)×(List Int)×(List Int)):=Qr.l0 k 0 [] [] [] [] [] []
def Qr.P0 (k:Nat):Prop:=∀ (x2:Int) (c0_0:List Int) (c0_1:List Int) (c0_2:List Int) (c1_0:List Int) (c1_1:List Int) (c1_2:List Int) (r:(List Int)×(List Int)×(List Int)),Qr.l0 k x2 c0_0 c0_1 c0_2 c1_0 c1_1 c1_2=some r→∀ st,canon 0 [0,1,2] st=⟨Qav [(0, .ptr 0 [] 0 0 0),(1, .ptr 1 [] 0 0 0),(2, .i .i64 x2)],rsL [(0,some ⟨true,3,0,[[.deep false false 1 (c0_0.map eI), .deep false false 1 (c0_1.map eI), .deep false false 1 (c0_2.map eI)]]⟩),(1,some ⟨true,3,0,[[.deep false false 1 (c1_0.map eI), .deep false false 1 (c1_1.map eI), .deep false false 1 (c1_2.map eI)]]⟩)],2⟩→W env Qr.c1 st (Qb 0 (Qs env Qr.c0 (Qf [.cell 0 (some 3)] [] ([.agg [.deep false false 1 (r.1.map eI), .deep false false 1 (r.2.1.map eI), .deep false false 1 (r.2.2.map eI)]],[]))))
def Qr.P1 (k:Nat):Prop:=∀ (x2:Int) (x3:Int) (c0_0:List Int) (c0_1:List Int) (c0_2:List Int) (c1_0:List Int) (c1_1:List Int) (c1_2:List Int) (r:(List Int)×(List Int)×(List Int)),Qr.l1 k x2 x3 c0_0 c0_1 c0_2 c1_0 c1_1 c1_2=some r→∀ st,canon 0 [0,1,2,3] st=⟨Qav [(0, .ptr 0 [] 0 0 0),(1, .ptr 1 [] 0 0 0),(2, .i .i64 x2),(3, .i .i64 x3)],rsL [(0,some ⟨true,3,0,[[.deep false false 1 (c0_0.map eI), .deep false false 1 (c0_1.map eI), .deep false false 1 (c0_2.map eI)]]⟩),(1,some ⟨true,3,0,[[.deep false false 1 (c1_0.map eI), .deep false false 1 (c1_1.map eI), .deep false false 1 (c1_2.map eI)]]⟩)],2⟩→W env Qr.c3 st (Qb 2 (Qb 1 (Qs env Qr.c2 (Ql env Qr.c1 (Qb 0 (Qs env Qr.c0 (Qf [.cell 0 (some 3)] [] ([.agg [.deep false false 1 (r.1.map eI), .deep false false 1 (r.2.1.map eI), .deep false false 1 (r.2.2.map eI)]],[]))))))))
theorem Qr.s0 (k:Nat) (ih:Qr.P0 k∧Qr.P1 k):Qr.P0 (k+1):=by
 intro x2 c0_0 c0_1 c0_2 c1_0 c1_1 c1_2 r H st hst
 rw [Qr.l0] at H
 rw [Qat (show Qr.c1=C.loop 0 [0,1,2] Qr.d1 from rfl),hst]
 unfold Qr.d1
 try simp only [TN,simprocAttr, *, Qr.c0,Qr.c2]
 rcases Qad H with ⟨h1,H⟩|⟨h1,H⟩
 ·skip
  obtain ⟨h2,H⟩:=i1 H
  have h3:(c1_0.length+1) * 8≤140737488355328:=by omega
  obtain ⟨h4,H⟩:=i1 H
  have h5:(c1_1.length+1) * 8≤140737488355328:=by omega
  try simp only [TN,simprocAttr, *, Qr.c0,Qr.c2]
  refine ih.2 _ _ _ _ _ _ _ _ _ H _ ?_
  first|(rw [Qc];done)|(rw [Qc];rfl)|(rw [Qc];simp only [LL];rfl)
 ·skip
  injection H with H;subst H
  try simp only [TN,simprocAttr, *, Qr.c0,Qr.c2]
  try rfl
theorem Qr.s1 (k:Nat) (ih:Qr.P0 k∧Qr.P1 k):Qr.P1 (k+1):=by
 intro x2 x3 c0_0 c0_1 c0_2 c1_0 c1_1 c1_2 r H st hst
 rw [Qr.l1] at H
 rw [Qat (show Qr.c3=C.loop 0 [0,1,2,3] Qr.d3 from rfl),hst]
 unfold Qr.d3
 try simp only [TN,simprocAttr, *, Qr.c0,Qr.c2]
 rcases Qad H with ⟨h1,H⟩|⟨h1,H⟩
 ·skip
  try simp only [TN,simprocAttr, *, Qr.c0,Qr.c2]
  rcases ioq H with ⟨h2,H⟩|⟨h2,H⟩
  ·skip
   obtain ⟨h3,H⟩:=i1 H
   have h4:(c1_2.length+1) * 8≤140737488355328:=by omega
   try simp only [TN,simprocAttr, *, Qr.c0,Qr.c2]
   refine ih.2 _ _ _ _ _ _ _ _ _ H _ ?_
   first|(rw [Qc];done)|(rw [Qc];rfl)|(rw [Qc];simp only [LL];rfl)
  ·skip
   obtain ⟨h5,H⟩:=i1 H
   have h6:(c1_2.length+1) * 8≤140737488355328:=by omega
   try simp only [TN,simprocAttr, *, Qr.c0,Qr.c2]
   refine ih.2 _ _ _ _ _ _ _ _ _ H _ ?_
   first|(rw [Qc];done)|(rw [Qc];rfl)|(rw [Qc];simp only [LL];rfl)
 ·skip
  try simp only [TN,simprocAttr, *, Qr.c0,Qr.c2]
  refine ih.1 _ _ _ _ _ _ _ _ H _ ?_
  first|(rw [Qc];done)|(rw [Qc];rfl)|(rw [Qc];simp only [LL];rfl)
theorem Qr.w:∀ k,Qr.P0 k∧Qr.P1 k:=by
 intro k
 induction k with
 | zero=>exact ⟨(by intro x2 c0_0 c0_1 c0_2 c1_0 c1_1 c1_2 r H;cases (show (none:Option ((List Int)×(List Int)×(List Int)))=some r from H)),(by intro x2 x3 c0_0 c0_1 c0_2 c1_0 c1_1 c1_2 r H;cases (show (none:Option ((List Int)×(List Int)×(List Int)))=some r from H))⟩
 | succ k ih=>exact ⟨(Qr.s0 k ih),(Qr.s1 k ih)⟩
theorem Qr.link {k:Nat} {r:(List Int)×(List Int)×(List Int)} (H:Qr.f k=some r):Qao env 124 []=some ([.agg [.deep false false 1 (r.1.map eI), .deep false false 1 (r.2.1.map eI), .deep false false 1 (r.2.2.map eI)]],[]):=by
 unfold Qr.f at H
 refine QM (F:=Qr.F) (tm:=Qav []) (rs:=rsL []) (nx:=0) (ow:=[]) rfl (by rfl) (by simp only [SN]) (by simp only [SN]) (by decide) ?_
 show W env Qr.B _ (Qf [.cell 0 (some 3)] [] _)
 unfold Qr.B
 try simp only [TN,simprocAttr, *, Qr.c0,Qr.c2]
 refine (Qr.w k).1 _ _ _ _ _ _ _ _ H _ ?_
 first|(rw [Qc];done)|(rw [Qc];rfl)|(rw [Qc];simp only [LL];rfl)
end Go.Proofs.YtallpjhkmcgpoaaGreat.P
end
section
namespace Go.Proofs.YtallpjhkmcgpoaaGreat.P
open Go Go.RowKit Go.Proofs.YtallpjhkmcgpoaaGreat.V
def Qan.f (p0_0:List Int) (p0_1:Int) (p0_2:Int) (l1:List Int):Option (Int×Int×Int):=(QC.f p0_0 p0_1 p0_2 (l1.length:Int)).bind fun bt1=>(if 0≤bt1.1 then (if bt1.1<(l1.length:Int) then (some (rd l1 bt1.1,bt1.2.1,bt1.2.2)) else none) else none)
theorem Qan.link {p0_0:List Int} {p0_1:Int} {p0_2:Int} {l1:List Int} {r:Int×Int×Int} (H:Qan.f p0_0 p0_1 p0_2 l1=some r):Qao env 125 [.deep true false 3 [[.deep false true 1 (p0_0.map e8), .i .i64 p0_1, .i .i64 p0_2]], .deep false false 1 (l1.map eI)]=some ([.i .i64 r.1],[some [[.deep false true 1 (p0_0.map e8), .i .i64 r.2.1, .i .i64 r.2.2]],some (l1.map eI)]):=by
 unfold Qan.f at H
 refine QM (F:=Qan.F) (tm:=Qav [(0, .ptr 0 [] 0 0 0),(1, .slc 1 [] 0 1 0 l1.length)]) (rs:=rsL [(0,some ⟨true,3,0,[[.deep false true 1 (p0_0.map e8), .i .i64 p0_1, .i .i64 p0_2]]⟩),(1,some ⟨true,1,0,(l1.map eI)⟩)]) (nx:=2) (ow:=[true,true]) rfl (by rfl) (by simp only [SN]) (by simp only [SN]) (by decide) ?_
 show W env Qan.B _ (Qf [.t 4] [true,true] _)
 unfold Qan.B
 obtain ⟨bt1,e1,H⟩:=Qp H
 have e1:=QC.link e1
 obtain ⟨h2,h3,H⟩:=i2 H
 injection H with H;subst H
 try simp only [TN,simprocAttr, *]
 try rfl
end Go.Proofs.YtallpjhkmcgpoaaGreat.P
end
section
namespace Go.Proofs.YtallpjhkmcgpoaaGreat.P
open Go Go.RowKit Go.Proofs.YtallpjhkmcgpoaaGreat.V
mutual
def Qm.l0:Nat→Int→(List Int)→Int→Int→(List Int)→(List Int)→(List Int)→(List Int)→(List Int)→(List Int)→Option ((List Int)×(List Int)×(List Int)×Int×Int)
 | 0,_,_,_,_,_,_,_,_,_,_=>none
 | k+1,x4,p0_0,c0_1,c0_2,c1_0,c1_1,c1_2,c2_0,c2_1,c2_2=>if x4<(c2_2.length:Int) then (if 0≤x4 then (Qm.l0 k (wrap64 (x4+1)) p0_0 c0_1 c0_2 c1_0 c1_1 c1_2 c2_0 c2_1 (c2_2.set (x4:Int).toNat (wrap64 ((rd c2_2 x4) * 3)))) else none) else (some (c2_0,c2_1,c2_2,c0_1,c0_2))
def Qm.l1:Nat→Int→(List Int)→Int→Int→(List Int)→(List Int)→(List Int)→(List Int)→(List Int)→(List Int)→Option ((List Int)×(List Int)×(List Int)×Int×Int)
 | 0,_,_,_,_,_,_,_,_,_,_=>none
 | k+1,x5,p0_0,c0_1,c0_2,c1_0,c1_1,c1_2,c2_0,c2_1,c2_2=>if x5<6 then ((QC.f p0_0 c0_1 c0_2 7).bind fun bt3=>(if 0≤x5 then (if x5<(c2_0.length:Int) then ((QC.f p0_0 bt3.2.1 bt3.2.2 7).bind fun bt4=>(if x5<(c2_1.length:Int) then (Qm.l2 k x5 0 p0_0 bt4.2.1 bt4.2.2 c1_0 c1_1 c1_2 (c2_0.set (x5:Int).toNat bt3.1) (c2_1.set (x5:Int).toNat bt4.1) c2_2) else none)) else none) else none)) else (some (c2_0,c2_1,c2_2,c0_1,c0_2))
def Qm.l2:Nat→Int→Int→(List Int)→Int→Int→(List Int)→(List Int)→(List Int)→(List Int)→(List Int)→(List Int)→Option ((List Int)×(List Int)×(List Int)×Int×Int)
 | 0,_,_,_,_,_,_,_,_,_,_,_=>none
 | k+1,x5,x6,p0_0,c0_1,c0_2,c1_0,c1_1,c1_2,c2_0,c2_1,c2_2=>if x6<6 then (if x5=x6 then (Qm.l2 k x5 (wrap64 (x6+1)) p0_0 c0_1 c0_2 c1_0 c1_1 c1_2 c2_0 c2_1 c2_2) else ((Qan.f p0_0 c0_1 c0_2 ([0,1,4,9,1000])).bind fun bt5=>(if 0≤wrap64 ((wrap64 (x5 * 6))+x6) then (if wrap64 ((wrap64 (x5 * 6))+x6)<(c2_2.length:Int) then (Qm.l2 k x5 (wrap64 (x6+1)) p0_0 bt5.2.1 bt5.2.2 c1_0 c1_1 c1_2 c2_0 c2_1 (c2_2.set (wrap64 ((wrap64 (x5 * 6))+x6):Int).toNat bt5.1)) else none) else none))) else (Qm.l1 k (wrap64 (x5+1)) p0_0 c0_1 c0_2 c1_0 c1_1 c1_2 c2_0 c2_1 c2_2)
end
def Qm.f (k:Nat) (p0_0:List Int) (p0_1:Int) (p0_2:Int):Option ((List Int)×(List Int)×(List Int)×Int×Int):=(Qr.f k).bind fun bt1=>((QC.f p0_0 p0_1 p0_2 4).bind fun bt2=>(if bt2.1=0 then (some (bt1.1,bt1.2.1,bt1.2.2,bt2.2.1,bt2.2.2)) else (if bt2.1=1 then (Qm.l0 k 0 p0_0 bt2.2.1 bt2.2.2 [] [] [] bt1.1 bt1.2.1 bt1.2.2) else (Qm.l1 k 0 p0_0 bt2.2.1 bt2.2.2 [] [] [] bt1.1 bt1.2.1 bt1.2.2))))
def Qm.P0 (k:Nat):Prop:=∀ (x4:Int) (p0_0:List Int) (c0_1:Int) (c0_2:Int) (c1_0:List Int) (c1_1:List Int) (c1_2:List Int) (c2_0:List Int) (c2_1:List Int) (c2_2:List Int) (r:(List Int)×(List Int)×(List Int)×Int×Int),Qm.l0 k x4 p0_0 c0_1 c0_2 c1_0 c1_1 c1_2 c2_0 c2_1 c2_2=some r→∀ st,canon 1 [2,3,4] st=⟨Qav [(2, .ptr 1 [] 0 0 0),(3, .ptr 2 [] 0 0 0),(4, .i .i64 x4)],rsL [(0,some ⟨true,3,0,[[.deep false true 1 (p0_0.map e8), .i .i64 c0_1, .i .i64 c0_2]]⟩),(1,some ⟨true,3,0,[[.deep false false 1 (c1_0.map eI), .deep false false 1 (c1_1.map eI), .deep false false 1 (c1_2.map eI)]]⟩),(2,some ⟨true,3,0,[[.deep false false 1 (c2_0.map eI), .deep false false 1 (c2_1.map eI), .deep false false 1 (c2_2.map eI)]]⟩)],3⟩→W env Qm.c2 st (Qb 1 (Qs env Qm.c1 (Qb 0 (Qs env Qm.c0 (Qf [.cell 2 (some 3)] [true] ([.agg [.deep false false 1 (r.1.map eI), .deep false false 1 (r.2.1.map eI), .deep false false 1 (r.2.2.1.map eI)]],[some [[.deep false true 1 (p0_0.map e8), .i .i64 r.2.2.2.1, .i .i64 r.2.2.2.2]]]))))))
def Qm.P1 (k:Nat):Prop:=∀ (x5:Int) (p0_0:List Int) (c0_1:Int) (c0_2:Int) (c1_0:List Int) (c1_1:List Int) (c1_2:List Int) (c2_0:List Int) (c2_1:List Int) (c2_2:List Int) (r:(List Int)×(List Int)×(List Int)×Int×Int),Qm.l1 k x5 p0_0 c0_1 c0_2 c1_0 c1_1 c1_2 c2_0 c2_1 c2_2=some r→∀ st,canon 1 [0,2,3,5] st=⟨Qav [(0, .ptr 0 [] 0 0 0),(2, .ptr 1 [] 0 0 0),(3, .ptr 2 [] 0 0 0),(5, .i .i64 x5)],rsL [(0,some ⟨true,3,0,[[.deep false true 1 (p0_0.map e8), .i .i64 c0_1, .i .i64 c0_2]]⟩),(1,some ⟨true,3,0,[[.deep false false 1 (c1_0.map eI), .deep false false 1 (c1_1.map eI), .deep false false 1 (c1_2.map eI)]]⟩),(2,some ⟨true,3,0,[[.deep false false 1 (c2_0.map eI), .deep false false 1 (c2_1.map eI), .deep false false 1 (c2_2.map eI)]]⟩)],3⟩→W env Qm.c4 st (Qb 3 (Qs env Qm.c3 (Qf [.cell 2 (some 3)] [true] ([.agg [.deep false false 1 (r.1.map eI), .deep false false 1 (r.2.1.map eI), .deep false false 1 (r.2.2.1.map eI)]],[some [[.deep false true 1 (p0_0.map e8), .i .i64 r.2.2.2.1, .i .i64 r.2.2.2.2]]]))))
def Qm.P2 (k:Nat):Prop:=∀ (x5:Int) (x6:Int) (p0_0:List Int) (c0_1:Int) (c0_2:Int) (c1_0:List Int) (c1_1:List Int) (c1_2:List Int) (c2_0:List Int) (c2_1:List Int) (c2_2:List Int) (r:(List Int)×(List Int)×(List Int)×Int×Int),Qm.l2 k x5 x6 p0_0 c0_1 c0_2 c1_0 c1_1 c1_2 c2_0 c2_1 c2_2=some r→∀ st,canon 1 [0,2,3,5,6] st=⟨Qav [(0, .ptr 0 [] 0 0 0),(2, .ptr 1 [] 0 0 0),(3, .ptr 2 [] 0 0 0),(5, .i .i64 x5),(6, .i .i64 x6)],rsL [(0,some ⟨true,3,0,[[.deep false true 1 (p0_0.map e8), .i .i64 c0_1, .i .i64 c0_2]]⟩),(1,some ⟨true,3,0,[[.deep false false 1 (c1_0.map eI), .deep false false 1 (c1_1.map eI), .deep false false 1 (c1_2.map eI)]]⟩),(2,some ⟨true,3,0,[[.deep false false 1 (c2_0.map eI), .deep false false 1 (c2_1.map eI), .deep false false 1 (c2_2.map eI)]]⟩)],3⟩→W env Qm.c6 st (Qb 5 (Qb 4 (Qs env Qm.c5 (Ql env Qm.c4 (Qb 3 (Qs env Qm.c3 (Qf [.cell 2 (some 3)] [true] ([.agg [.deep false false 1 (r.1.map eI), .deep false false 1 (r.2.1.map eI), .deep false false 1 (r.2.2.1.map eI)]],[some [[.deep false true 1 (p0_0.map e8), .i .i64 r.2.2.2.1, .i .i64 r.2.2.2.2]]]))))))))
theorem Qm.s0 (k:Nat) (ih:Qm.P0 k∧Qm.P1 k∧Qm.P2 k):Qm.P0 (k+1):=by
 intro x4 p0_0 c0_1 c0_2 c1_0 c1_1 c1_2 c2_0 c2_1 c2_2 r H st hst
 rw [Qm.l0] at H
 rw [Qat (show Qm.c2=C.loop 1 [2,3,4] Qm.d2 from rfl),hst]
 unfold Qm.d2
 try simp only [TN,simprocAttr, *, Qm.c0,Qm.c1,Qm.c3,Qm.c5]
 rcases Qad H with ⟨h1,H⟩|⟨h1,H⟩
 ·skip
  obtain ⟨h2,H⟩:=i1 H
  try simp only [TN,simprocAttr, *, Qm.c0,Qm.c1,Qm.c3,Qm.c5]
  refine ih.1 _ _ _ _ _ _ _ _ _ _ _ H _ ?_
  first|(rw [Qc];done)|(rw [Qc];rfl)|(rw [Qc];simp only [LL];rfl)
 ·skip
  injection H with H;subst H
  try simp only [TN,simprocAttr, *, Qm.c0,Qm.c1,Qm.c3,Qm.c5]
  try rfl
theorem Qm.s1 (k:Nat) (ih:Qm.P0 k∧Qm.P1 k∧Qm.P2 k):Qm.P1 (k+1):=by
 intro x5 p0_0 c0_1 c0_2 c1_0 c1_1 c1_2 c2_0 c2_1 c2_2 r H st hst
 rw [Qm.l1] at H
 rw [Qat (show Qm.c4=C.loop 1 [0,2,3,5] Qm.d4 from rfl),hst]
 unfold Qm.d4
 try simp only [TN,simprocAttr, *, Qm.c0,Qm.c1,Qm.c3,Qm.c5]
 rcases Qad H with ⟨h1,H⟩|⟨h1,H⟩
 ·skip
  obtain ⟨bt3,e2,H⟩:=Qp H
  have e2:=QC.link e2
  obtain ⟨h3,h4,H⟩:=i2 H
  obtain ⟨bt4,e5,H⟩:=Qp H
  have e5:=QC.link e5
  obtain ⟨h6,H⟩:=i1 H
  try simp only [TN,simprocAttr, *, Qm.c0,Qm.c1,Qm.c3,Qm.c5]
  refine ih.2.2 _ _ _ _ _ _ _ _ _ _ _ _ H _ ?_
  first|(rw [Qc];done)|(rw [Qc];rfl)|(rw [Qc];simp only [LL];rfl)
 ·skip
  injection H with H;subst H
  try simp only [TN,simprocAttr, *, Qm.c0,Qm.c1,Qm.c3,Qm.c5]
  try rfl
theorem Qm.s2 (k:Nat) (ih:Qm.P0 k∧Qm.P1 k∧Qm.P2 k):Qm.P2 (k+1):=by
 intro x5 x6 p0_0 c0_1 c0_2 c1_0 c1_1 c1_2 c2_0 c2_1 c2_2 r H st hst
 rw [Qm.l2] at H
 rw [Qat (show Qm.c6=C.loop 1 [0,2,3,5,6] Qm.d6 from rfl),hst]
 unfold Qm.d6
 try simp only [TN,simprocAttr, *, Qm.c0,Qm.c1,Qm.c3,Qm.c5]
 rcases Qad H with ⟨h1,H⟩|⟨h1,H⟩
 ·skip
  try simp only [TN,simprocAttr, *, Qm.c0,Qm.c1,Qm.c3,Qm.c5]
  rcases ioq H with ⟨h2,H⟩|⟨h2,H⟩
  ·skip
   try simp only [TN,simprocAttr, *, Qm.c0,Qm.c1,Qm.c3,Qm.c5]
   refine ih.2.2 _ _ _ _ _ _ _ _ _ _ _ _ H _ ?_
   first|(rw [Qc];done)|(rw [Qc];rfl)|(rw [Qc];simp only [LL];rfl)
  ·skip
   obtain ⟨bt5,e3,H⟩:=Qp H
   have e3:=Qan.link e3
   obtain ⟨h4,h5,H⟩:=i2 H
   try simp only [TN,simprocAttr, *, Qm.c0,Qm.c1,Qm.c3,Qm.c5]
   refine ih.2.2 _ _ _ _ _ _ _ _ _ _ _ _ H _ ?_
   first|(rw [Qc];done)|(rw [Qc];rfl)|(rw [Qc];simp only [LL];rfl)
 ·skip
  try simp only [TN,simprocAttr, *, Qm.c0,Qm.c1,Qm.c3,Qm.c5]
  refine ih.2.1 _ _ _ _ _ _ _ _ _ _ _ H _ ?_
  first|(rw [Qc];done)|(rw [Qc];rfl)|(rw [Qc];simp only [LL];rfl)
theorem Qm.w:∀ k,Qm.P0 k∧Qm.P1 k∧Qm.P2 k:=by
 intro k
 induction k with
 | zero=>exact ⟨(by intro x4 p0_0 c0_1 c0_2 c1_0 c1_1 c1_2 c2_0 c2_1 c2_2 r H;cases (show (none:Option ((List Int)×(List Int)×(List Int)×Int×Int))=some r from H)),(by intro x5 p0_0 c0_1 c0_2 c1_0 c1_1 c1_2 c2_0 c2_1 c2_2 r H;cases (show (none:Option ((List Int)×(List Int)×(List Int)×Int×Int))=some r from H)),(by intro x5 x6 p0_0 c0_1 c0_2 c1_0 c1_1 c1_2 c2_0 c2_1 c2_2 r H;cases (show (none:Option ((List Int)×(List Int)×(List Int)×Int×Int))=some r from H))⟩
 | succ k ih=>exact ⟨(Qm.s0 k ih),(Qm.s1 k ih),(Qm.s2 k ih)⟩
theorem Qm.link {k:Nat} {p0_0:List Int} {p0_1:Int} {p0_2:Int} {r:(List Int)×(List Int)×(List Int)×Int×Int} (H:Qm.f k p0_0 p0_1 p0_2=some r):Qao env 106 [.deep true false 3 [[.deep false true 1 (p0_0.map e8), .i .i64 p0_1, .i .i64 p0_2]]]=some ([.agg [.deep false false 1 (r.1.map eI), .deep false false 1 (r.2.1.map eI), .deep false false 1 (r.2.2.1.map eI)]],[some [[.deep false true 1 (p0_0.map e8), .i .i64 r.2.2.2.1, .i .i64 r.2.2.2.2]]]):=by
 unfold Qm.f at H
 refine QM (F:=Qm.F) (tm:=Qav [(0, .ptr 0 [] 0 0 0)]) (rs:=rsL [(0,some ⟨true,3,0,[[.deep false true 1 (p0_0.map e8), .i .i64 p0_1, .i .i64 p0_2]]⟩)]) (nx:=1) (ow:=[true]) rfl (by rfl) (by simp only [SN]) (by simp only [SN]) (by decide) ?_
 show W env Qm.B _ (Qf [.cell 2 (some 3)] [true] _)
 unfold Qm.B
 obtain ⟨bt1,e1,H⟩:=Qp H
 have e1:=Qr.link e1
 obtain ⟨bt2,e2,H⟩:=Qp H
 have e2:=QC.link e2
 try simp only [TN,simprocAttr, *, Qm.c0,Qm.c1,Qm.c3,Qm.c5]
 rcases ioq H with ⟨h3,H⟩|⟨h3,H⟩
 ·skip
  injection H with H;subst H
  try simp only [TN,simprocAttr, *, Qm.c0,Qm.c1,Qm.c3,Qm.c5]
  try rfl
 ·skip
  try simp only [TN,simprocAttr, *, Qm.c0,Qm.c1,Qm.c3,Qm.c5]
  rcases ioq H with ⟨h4,H⟩|⟨h4,H⟩
  ·skip
   try simp only [TN,simprocAttr, *, Qm.c0,Qm.c1,Qm.c3,Qm.c5]
   refine (Qm.w k).1 _ _ _ _ _ _ _ _ _ _ _ H _ ?_
   first|(rw [Qc];done)|(rw [Qc];rfl)|(rw [Qc];simp only [LL];rfl)
  ·skip
   try simp only [TN,simprocAttr, *, Qm.c0,Qm.c1,Qm.c3,Qm.c5]
   refine (Qm.w k).2.1 _ _ _ _ _ _ _ _ _ _ _ H _ ?_
   first|(rw [Qc];done)|(rw [Qc];rfl)|(rw [Qc];simp only [LL];rfl)
end Go.Proofs.YtallpjhkmcgpoaaGreat.P
end
section
namespace Go.Proofs.YtallpjhkmcgpoaaGreat.P
open Go Go.RowKit Go.Proofs.YtallpjhkmcgpoaaGreat.V
def Qbr.f (p0_0:List Int) (p0_1:Int) (p0_2:Int):Option (Int×Int×Int):=(Qan.f p0_0 p0_1 p0_2 ([0,1,2,3,5,6,(-1)])).bind fun bt1=>(some (bt1.1,bt1.2.1,bt1.2.2))
theorem Qbr.link {p0_0:List Int} {p0_1:Int} {p0_2:Int} {r:Int×Int×Int} (H:Qbr.f p0_0 p0_1 p0_2=some r):Qao env 127 [.deep true false 3 [[.deep false true 1 (p0_0.map e8), .i .i64 p0_1, .i .i64 p0_2]]]=some ([.i .i64 r.1],[some [[.deep false true 1 (p0_0.map e8), .i .i64 r.2.1, .i .i64 r.2.2]]]):=by
 unfold Qbr.f at H
 refine QM (F:=Qbr.F) (tm:=Qav [(0, .ptr 0 [] 0 0 0)]) (rs:=rsL [(0,some ⟨true,3,0,[[.deep false true 1 (p0_0.map e8), .i .i64 p0_1, .i .i64 p0_2]]⟩)]) (nx:=1) (ow:=[true]) rfl (by rfl) (by simp only [SN]) (by simp only [SN]) (by decide) ?_
 show W env Qbr.B _ (Qf [.t 2] [true] _)
 unfold Qbr.B
 obtain ⟨bt1,e1,H⟩:=Qp H
 have e1:=Qan.link e1
 injection H with H;subst H
 try simp only [TN,simprocAttr, *]
 try rfl
end Go.Proofs.YtallpjhkmcgpoaaGreat.P
end
section
namespace Go.Proofs.YtallpjhkmcgpoaaGreat.P
open Go Go.RowKit Go.Proofs.YtallpjhkmcgpoaaGreat.V
mutual
def QB.l0:Nat→(List S38)→(List Int)→Int→Int→Option ((List S38)×Int×Int)
 | 0,_,_,_,_=>none
 | k+1,x5,p0_0,c0_1,c0_2=>(QC.f p0_0 c0_1 c0_2 2).bind fun bt6=>(if (x5.length:Int)<(wrap64 (24+bt6.1)) then (if x5.length<8796093022208 then (QB.l0 k (x5++([(⟨1,1⟩:S38)])) p0_0 bt6.2.1 bt6.2.2) else none) else (some (x5,bt6.2.1,bt6.2.2)))
def QB.l1:Nat→(List S38)→(List Int)→Int→Int→Option ((List S38)×Int×Int)
 | 0,_,_,_,_=>none
 | k+1,x5,p0_0,c0_1,c0_2=>(QC.f p0_0 c0_1 c0_2 2).bind fun bt7=>(if (x5.length:Int)<(wrap64 (13+bt7.1)) then (if x5.length<8796093022208 then (QB.l1 k (x5++([(⟨0,(x5.length:Int)⟩:S38)])) p0_0 bt7.2.1 bt7.2.2) else none) else (some (x5,bt7.2.1,bt7.2.2)))
end
def QB.f (k:Nat) (p0_0:List Int) (p0_1:Int) (p0_2:Int) (a1:Int):Option ((List S38)×Int×Int):=(QN.f k p0_0 p0_1 p0_2 a1).bind fun bt1=>((QC.f p0_0 bt1.2.1 bt1.2.2 (bt1.1.length:Int)).bind fun bt2=>((QC.f p0_0 bt2.2.1 bt2.2.2 18).bind fun bt3=>(if bt3.1=0 then ((Qbr.f p0_0 bt3.2.1 bt3.2.2).bind fun bt4=>(if 0≤bt2.1 then (if bt2.1<(bt1.1.length:Int) then (some ((bt1.1.set (bt2.1:Int).toNat (⟨bt4.1,(Qac bt1.1 bt2.1).f1⟩:S38)),bt4.2.1,bt4.2.2)) else none) else none)) else (if bt3.1=1 then (if 0≤bt2.1 then (if bt2.1<(bt1.1.length:Int) then ((Qan.f p0_0 bt3.2.1 bt3.2.2 ([(-1),0,1,13,wrap64 (((Qac bt1.1 bt2.1).f1)+1)])).bind fun bt5=>(some ((bt1.1.set (bt2.1:Int).toNat (⟨(Qac bt1.1 bt2.1).f0,bt5.1⟩:S38)),bt5.2.1,bt5.2.2))) else none) else none) else (if bt3.1=2 then (if 1≤(bt1.1.length:Int) then ((some (bt1.1.drop (1:Int).toNat:List S38)).bind fun y2=>(some (y2,bt3.2.1,bt3.2.2))) else none) else (if bt3.1=3 then (QB.l0 k bt1.1 p0_0 bt3.2.1 bt3.2.2) else (if bt3.1=4 then (QB.l1 k ([(⟨0,0⟩:S38)]) p0_0 bt3.2.1 bt3.2.2) else (some (bt1.1,bt3.2.1,bt3.2.2)))))))))
def QB.P0 (k:Nat):Prop:=∀ (x5:List S38) (p0_0:List Int) (c0_1:Int) (c0_2:Int) (r:(List S38)×Int×Int),QB.l0 k x5 p0_0 c0_1 c0_2=some r→∀ st,canon 1 [0,5] st=⟨Qav [(0, .ptr 0 [] 0 0 0),(5, .slc 1 [] 0 2 0 x5.length)],rsL [(0,some ⟨true,3,0,[[.deep false true 1 (p0_0.map e8), .i .i64 c0_1, .i .i64 c0_2]]⟩),(1,some ⟨true,2,0,(x5.map e38)⟩)],2⟩→W env QB.c1 st (Qb 1 (Qb 0 (Qs env QB.c0 (Qf [.t 4] [true] ([.deep false false 2 (r.1.map e38)],[some [[.deep false true 1 (p0_0.map e8), .i .i64 r.2.1, .i .i64 r.2.2]]])))))
def QB.P1 (k:Nat):Prop:=∀ (x5:List S38) (p0_0:List Int) (c0_1:Int) (c0_2:Int) (r:(List S38)×Int×Int),QB.l1 k x5 p0_0 c0_1 c0_2=some r→∀ st,canon 1 [0,5] st=⟨Qav [(0, .ptr 0 [] 0 0 0),(5, .slc 1 [] 0 2 0 x5.length)],rsL [(0,some ⟨true,3,0,[[.deep false true 1 (p0_0.map e8), .i .i64 c0_1, .i .i64 c0_2]]⟩),(1,some ⟨true,2,0,(x5.map e38)⟩)],2⟩→W env QB.c2 st (Qb 3 (Qb 0 (Qs env QB.c0 (Qf [.t 4] [true] ([.deep false false 2 (r.1.map e38)],[some [[.deep false true 1 (p0_0.map e8), .i .i64 r.2.1, .i .i64 r.2.2]]])))))
theorem QB.s0 (k:Nat) (ih:QB.P0 k∧QB.P1 k):QB.P0 (k+1):=by
 intro x5 p0_0 c0_1 c0_2 r H st hst
 rw [QB.l0] at H
 rw [Qat (show QB.c1=C.loop 1 [0,5] QB.d1 from rfl),hst]
 unfold QB.d1
 obtain ⟨bt6,e1,H⟩:=Qp H
 have e1:=QC.link e1
 try simp only [TN,simprocAttr, *, QB.c0]
 rcases Qad H with ⟨h2,H⟩|⟨h2,H⟩
 ·skip
  obtain ⟨h3,H⟩:=i1 H
  have h4:(x5.length+1) * 16≤140737488355328:=by omega
  try simp only [TN,simprocAttr, *, QB.c0,@Qcf]
  refine ih.1 _ _ _ _ _ H _ ?_
  first|(rw [Qc];done)|(rw [Qc];rfl)|(rw [Qc];simp only [LL];rfl)
 ·skip
  injection H with H;subst H
  try simp only [TN,simprocAttr, *, QB.c0]
  try rfl
theorem QB.s1 (k:Nat) (ih:QB.P0 k∧QB.P1 k):QB.P1 (k+1):=by
 intro x5 p0_0 c0_1 c0_2 r H st hst
 rw [QB.l1] at H
 rw [Qat (show QB.c2=C.loop 1 [0,5] QB.d2 from rfl),hst]
 unfold QB.d2
 obtain ⟨bt7,e1,H⟩:=Qp H
 have e1:=QC.link e1
 try simp only [TN,simprocAttr, *, QB.c0]
 rcases Qad H with ⟨h2,H⟩|⟨h2,H⟩
 ·skip
  obtain ⟨h3,H⟩:=i1 H
  have h4:(x5.length+1) * 16≤140737488355328:=by omega
  try simp only [TN,simprocAttr, *, QB.c0,@Qcf]
  refine ih.2 _ _ _ _ _ H _ ?_
  first|(rw [Qc];done)|(rw [Qc];rfl)|(rw [Qc];simp only [LL];rfl)
 ·skip
  injection H with H;subst H
  try simp only [TN,simprocAttr, *, QB.c0]
  try rfl
theorem QB.w:∀ k,QB.P0 k∧QB.P1 k:=by
 intro k
 induction k with
 | zero=>exact ⟨(by intro x5 p0_0 c0_1 c0_2 r H;cases (show (none:Option ((List S38)×Int×Int))=some r from H)),(by intro x5 p0_0 c0_1 c0_2 r H;cases (show (none:Option ((List S38)×Int×Int))=some r from H))⟩
 | succ k ih=>exact ⟨(QB.s0 k ih),(QB.s1 k ih)⟩
theorem QB.link {k:Nat} {p0_0:List Int} {p0_1:Int} {p0_2:Int} {a1:Int} {r:(List S38)×Int×Int} (H:QB.f k p0_0 p0_1 p0_2 a1=some r):Qao env 108 [.deep true false 3 [[.deep false true 1 (p0_0.map e8), .i .i64 p0_1, .i .i64 p0_2]], .i .i64 a1]=some ([.deep false false 2 (r.1.map e38)],[some [[.deep false true 1 (p0_0.map e8), .i .i64 r.2.1, .i .i64 r.2.2]]]):=by
 unfold QB.f at H
 refine QM (F:=QB.F) (tm:=Qav [(0, .ptr 0 [] 0 0 0),(1, .i .i64 a1)]) (rs:=rsL [(0,some ⟨true,3,0,[[.deep false true 1 (p0_0.map e8), .i .i64 p0_1, .i .i64 p0_2]]⟩)]) (nx:=1) (ow:=[true]) rfl (by rfl) (by simp only [SN]) (by simp only [SN]) (by decide) ?_
 show W env QB.B _ (Qf [.t 4] [true] _)
 unfold QB.B
 obtain ⟨bt1,e1,H⟩:=Qp H
 have e1:=QN.link e1
 obtain ⟨bt2,e2,H⟩:=Qp H
 have e2:=QC.link e2
 obtain ⟨bt3,e3,H⟩:=Qp H
 have e3:=QC.link e3
 try simp only [TN,simprocAttr, *, QB.c0]
 rcases ioq H with ⟨h4,H⟩|⟨h4,H⟩
 ·skip
  obtain ⟨bt4,e5,H⟩:=Qp H
  have e5:=Qbr.link e5
  obtain ⟨h6,h7,H⟩:=i2 H
  injection H with H;subst H
  try simp only [TN,simprocAttr, *, QB.c0]
  try rfl
 ·skip
  try simp only [TN,simprocAttr, *, QB.c0]
  rcases ioq H with ⟨h8,H⟩|⟨h8,H⟩
  ·skip
   obtain ⟨h9,h10,H⟩:=i2 H
   obtain ⟨bt5,e11,H⟩:=Qp H
   have e11:=Qan.link e11
   injection H with H;subst H
   try simp only [TN,simprocAttr, *, QB.c0]
   try rfl
  ·skip
   try simp only [TN,simprocAttr, *, QB.c0]
   rcases ioq H with ⟨h12,H⟩|⟨h12,H⟩
   ·skip
    obtain ⟨h13,H⟩:=i1 H
    obtain ⟨y2,hy2,H⟩:=Qci H
    have h14:bt1.1.length-1=List.length y2:=by rw [←hy2];simp only [List.length_drop,List.length_take] <;> omega
    have cw14:(List.drop (1) bt1.1).take (List.length y2)=y2:=by rw [←hy2];exact List.take_length
    have g14:∀ {j:Int}, 0≤j→j<(List.length y2:Int)→(bt1.1.map e38)[1+j.toNat]? = some (e38 (Qac y2 j)):=fun h1 h2=>Qf0 cw14 h1 h2
    have w14:=QcT (e:=e38) cw14
    injection H with H;subst H
    try simp only [TN,simprocAttr, *, QB.c0]
    try rfl
   ·skip
    try simp only [TN,simprocAttr, *, QB.c0]
    rcases ioq H with ⟨h15,H⟩|⟨h15,H⟩
    ·skip
     try simp only [TN,simprocAttr, *, QB.c0]
     refine (QB.w k).1 _ _ _ _ _ H _ ?_
     first|(rw [Qc];done)|(rw [Qc];rfl)|(rw [Qc];simp only [LL];rfl)
    ·skip
     try simp only [TN,simprocAttr, *, QB.c0]
     rcases ioq H with ⟨h16,H⟩|⟨h16,H⟩
     ·skip
      try simp only [TN,simprocAttr, *, QB.c0,@Qcf]
      refine (QB.w k).2 _ _ _ _ _ H _ ?_
      first|(rw [Qc];done)|(rw [Qc];rfl)|(rw [Qc];simp only [LL];rfl)
     ·skip
      injection H with H;subst H
      try simp only [TN,simprocAttr, *, QB.c0]
      try rfl
end Go.Proofs.YtallpjhkmcgpoaaGreat.P
end
section
namespace Go.Proofs.YtallpjhkmcgpoaaGreat.P
open Go Go.RowKit Go.Proofs.YtallpjhkmcgpoaaGreat.V
def Qbq.f (k:Nat) (p0_0:List Int) (p0_1:Int) (p0_2:Int):Option ((List Int)×(List Int)×(List Int)×Int×Int):=(Qm.f k p0_0 p0_1 p0_2).bind fun bt1=>((QC.f p0_0 bt1.2.2.2.1 bt1.2.2.2.2 14).bind fun bt2=>(if bt2.1=0 then ((QC.f p0_0 bt2.2.1 bt2.2.2 6).bind fun bt3=>((Qan.f p0_0 bt3.2.1 bt3.2.2 ([(-1),1001,1000])).bind fun bt4=>(if 0≤bt3.1 then (if bt3.1<(bt1.1.length:Int) then (some ((bt1.1.set (bt3.1:Int).toNat bt4.1),bt1.2.1,bt1.2.2.1,bt4.2.1,bt4.2.2)) else none) else none))) else (if bt2.1=1 then ((QC.f p0_0 bt2.2.1 bt2.2.2 36).bind fun bt5=>(if 0≤bt5.1 then (if bt5.1<(bt1.2.2.1.length:Int) then (some (bt1.1,bt1.2.1,(bt1.2.2.1.set (bt5.1:Int).toNat 5),bt5.2.1,bt5.2.2)) else none) else none)) else (if bt2.1=2 then (if 1≤(bt1.2.1.length:Int) then ((some (bt1.2.1.drop (1:Int).toNat:List Int)).bind fun y2=>(some (bt1.1,y2,bt1.2.2.1,bt2.2.1,bt2.2.2))) else none) else (some (bt1.1,bt1.2.1,bt1.2.2.1,bt2.2.1,bt2.2.2))))))
theorem Qbq.link {k:Nat} {p0_0:List Int} {p0_1:Int} {p0_2:Int} {r:(List Int)×(List Int)×(List Int)×Int×Int} (H:Qbq.f k p0_0 p0_1 p0_2=some r):Qao env 109 [.deep true false 3 [[.deep false true 1 (p0_0.map e8), .i .i64 p0_1, .i .i64 p0_2]]]=some ([.agg [.deep false false 1 (r.1.map eI), .deep false false 1 (r.2.1.map eI), .deep false false 1 (r.2.2.1.map eI)]],[some [[.deep false true 1 (p0_0.map e8), .i .i64 r.2.2.2.1, .i .i64 r.2.2.2.2]]]):=by
 unfold Qbq.f at H
 refine QM (F:=Qbq.F) (tm:=Qav [(0, .ptr 0 [] 0 0 0)]) (rs:=rsL [(0,some ⟨true,3,0,[[.deep false true 1 (p0_0.map e8), .i .i64 p0_1, .i .i64 p0_2]]⟩)]) (nx:=1) (ow:=[true]) rfl (by rfl) (by simp only [SN]) (by simp only [SN]) (by decide) ?_
 show W env Qbq.B _ (Qf [.cell 2 (some 3)] [true] _)
 unfold Qbq.B
 obtain ⟨bt1,e1,H⟩:=Qp H
 have e1:=Qm.link e1
 obtain ⟨bt2,e2,H⟩:=Qp H
 have e2:=QC.link e2
 try simp only [TN,simprocAttr, *]
 rcases ioq H with ⟨h3,H⟩|⟨h3,H⟩
 ·skip
  obtain ⟨bt3,e4,H⟩:=Qp H
  have e4:=QC.link e4
  obtain ⟨bt4,e5,H⟩:=Qp H
  have e5:=Qan.link e5
  obtain ⟨h6,h7,H⟩:=i2 H
  injection H with H;subst H
  try simp only [TN,simprocAttr, *]
  try rfl
 ·skip
  try simp only [TN,simprocAttr, *]
  rcases ioq H with ⟨h8,H⟩|⟨h8,H⟩
  ·skip
   obtain ⟨bt5,e9,H⟩:=Qp H
   have e9:=QC.link e9
   obtain ⟨h10,h11,H⟩:=i2 H
   injection H with H;subst H
   try simp only [TN,simprocAttr, *]
   try rfl
  ·skip
   try simp only [TN,simprocAttr, *]
   rcases ioq H with ⟨h12,H⟩|⟨h12,H⟩
   ·skip
    obtain ⟨h13,H⟩:=i1 H
    obtain ⟨y2,hy2,H⟩:=Qci H
    have h14:bt1.2.1.length-1=List.length y2:=by rw [←hy2];simp only [List.length_drop,List.length_take] <;> omega
    have cw14:(List.drop (1) bt1.2.1).take (List.length y2)=y2:=by rw [←hy2];exact List.take_length
    have g14:∀ {j:Int}, 0≤j→j<(List.length y2:Int)→(bt1.2.1.map eI)[1+j.toNat]? = some (eI (rd y2 j)):=fun h1 h2=>Qf0 cw14 h1 h2
    have w14:=QcT (e:=eI) cw14
    injection H with H;subst H
    try simp only [TN,simprocAttr, *]
    try rfl
   ·skip
    injection H with H;subst H
    try simp only [TN,simprocAttr, *]
    try rfl
end Go.Proofs.YtallpjhkmcgpoaaGreat.P
end
section
namespace Go.Proofs.YtallpjhkmcgpoaaGreat.P
open Go Go.RowKit Go.Proofs.YtallpjhkmcgpoaaGreat.V
def Qab.j0:Nat→Int→(List S38)→(List S38)→(List Int)→Int→Int→(List Int)→(List Int)→(List Int)→Option ((List S38)×(List S38)×(List Int)×(List Int)×(List Int)×Int×Int)
 | 0,_,_,_,_,_,_,_,_,_=>none
 | k+1,a1,x7,x8,p0_0,c0_1,c0_2,c1_0,c1_1,c1_2=>(Qm.f k p0_0 c0_1 c0_2).bind fun bt5=>((QC.f p0_0 bt5.2.2.2.1 bt5.2.2.2.2 24).bind fun bt6=>(if bt6.1=0 then ((QB.f k p0_0 bt6.2.1 bt6.2.2 a1).bind fun bt7=>(some (bt7.1,x8,bt5.1,bt5.2.1,bt5.2.2.1,bt7.2.1,bt7.2.2))) else (if bt6.1=1 then ((Qbq.f k p0_0 bt6.2.1 bt6.2.2).bind fun bt8=>(some (x7,x8,bt8.1,bt8.2.1,bt8.2.2.1,bt8.2.2.2.1,bt8.2.2.2.2))) else (some (x7,x8,bt5.1,bt5.2.1,bt5.2.2.1,bt6.2.1,bt6.2.2)))))
def Qab.f (k:Nat) (p0_0:List Int) (p0_1:Int) (p0_2:Int) (a1:Int):Option ((List S38)×(List S38)×(List Int)×(List Int)×(List Int)×Int×Int):=(QN.f k p0_0 p0_1 p0_2 a1).bind fun bt1=>((QN.f k p0_0 bt1.2.1 bt1.2.2 a1).bind fun bt2=>((Qa0.f p0_0 bt2.2.1 bt2.2.2 2).bind fun bt3=>(if bt3.1=true then ((QJ.f k p0_0 bt3.2.1 bt3.2.2 bt1.1).bind fun bt4=>(Qab.j0 k a1 bt1.1 bt4.1 p0_0 bt4.2.1 bt4.2.2 [] [] [])) else (Qab.j0 k a1 bt1.1 bt2.1 p0_0 bt3.2.1 bt3.2.2 [] [] []))))
def Qab.P0 (k:Nat):Prop:=∀ (a1:Int) (x7:List S38) (x8:List S38) (p0_0:List Int) (c0_1:Int) (c0_2:Int) (c1_0:List Int) (c1_1:List Int) (c1_2:List Int) (r:(List S38)×(List S38)×(List Int)×(List Int)×(List Int)×Int×Int),Qab.j0 k a1 x7 x8 p0_0 c0_1 c0_2 c1_0 c1_1 c1_2=some r→∀ st,canon 1 [0,1,6,7,8] st=⟨Qav [(0, .ptr 0 [] 0 0 0),(1, .i .i64 a1),(6, .ptr 1 [] 0 0 0),(7, .slc 2 [] 0 2 0 x7.length),(8, .slc 3 [] 0 2 0 x8.length)],rsL [(0,some ⟨true,3,0,[[.deep false true 1 (p0_0.map e8), .i .i64 c0_1, .i .i64 c0_2]]⟩),(1,some ⟨true,3,0,[[.deep false false 1 (c1_0.map eI), .deep false false 1 (c1_1.map eI), .deep false false 1 (c1_2.map eI)]]⟩),(2,some ⟨true,2,0,(x7.map e38)⟩),(3,some ⟨true,2,0,(x8.map e38)⟩)],4⟩→W env Qab.c0 (canon 1 [0,1,6,7,8] st) (Qf [.t 4, .t 5, .cell 6 (some 3)] [true] ([.deep false false 2 (r.1.map e38), .deep false false 2 (r.2.1.map e38), .agg [.deep false false 1 (r.2.2.1.map eI), .deep false false 1 (r.2.2.2.1.map eI), .deep false false 1 (r.2.2.2.2.1.map eI)]],[some [[.deep false true 1 (p0_0.map e8), .i .i64 r.2.2.2.2.2.1, .i .i64 r.2.2.2.2.2.2]]]))
theorem Qab.s0 (k:Nat) (ih:Qab.P0 k):Qab.P0 (k+1):=by
 intro a1 x7 x8 p0_0 c0_1 c0_2 c1_0 c1_1 c1_2 r H st hst
 rw [Qab.j0] at H
 rw [hst];unfold Qab.c0
 obtain ⟨bt5,e1,H⟩:=Qp H
 have e1:=Qm.link e1
 obtain ⟨bt6,e2,H⟩:=Qp H
 have e2:=QC.link e2
 try simp only [TN,simprocAttr, *]
 rcases ioq H with ⟨h3,H⟩|⟨h3,H⟩
 ·skip
  obtain ⟨bt7,e4,H⟩:=Qp H
  have e4:=QB.link e4
  injection H with H;subst H
  try simp only [TN,simprocAttr, *]
  try rfl
 ·skip
  try simp only [TN,simprocAttr, *]
  rcases ioq H with ⟨h5,H⟩|⟨h5,H⟩
  ·skip
   obtain ⟨bt8,e6,H⟩:=Qp H
   have e6:=Qbq.link e6
   injection H with H;subst H
   try simp only [TN,simprocAttr, *]
   try rfl
  ·skip
   injection H with H;subst H
   try simp only [TN,simprocAttr, *]
   try rfl
theorem Qab.w:∀ k,Qab.P0 k:=by
 intro k
 induction k with
 | zero=>exact by intro a1 x7 x8 p0_0 c0_1 c0_2 c1_0 c1_1 c1_2 r H;cases (show (none:Option ((List S38)×(List S38)×(List Int)×(List Int)×(List Int)×Int×Int))=some r from H)
 | succ k ih=>exact Qab.s0 k ih
theorem Qab.link {k:Nat} {p0_0:List Int} {p0_1:Int} {p0_2:Int} {a1:Int} {r:(List S38)×(List S38)×(List Int)×(List Int)×(List Int)×Int×Int} (H:Qab.f k p0_0 p0_1 p0_2 a1=some r):Qao env 73 [.deep true false 3 [[.deep false true 1 (p0_0.map e8), .i .i64 p0_1, .i .i64 p0_2]], .i .i64 a1]=some ([.deep false false 2 (r.1.map e38), .deep false false 2 (r.2.1.map e38), .agg [.deep false false 1 (r.2.2.1.map eI), .deep false false 1 (r.2.2.2.1.map eI), .deep false false 1 (r.2.2.2.2.1.map eI)]],[some [[.deep false true 1 (p0_0.map e8), .i .i64 r.2.2.2.2.2.1, .i .i64 r.2.2.2.2.2.2]]]):=by
 unfold Qab.f at H
 refine QM (F:=Qab.F) (tm:=Qav [(0, .ptr 0 [] 0 0 0),(1, .i .i64 a1)]) (rs:=rsL [(0,some ⟨true,3,0,[[.deep false true 1 (p0_0.map e8), .i .i64 p0_1, .i .i64 p0_2]]⟩)]) (nx:=1) (ow:=[true]) rfl (by rfl) (by simp only [SN]) (by simp only [SN]) (by decide) ?_
 show W env Qab.B _ (Qf [.t 4, .t 5, .cell 6 (some 3)] [true] _)
 unfold Qab.B
 obtain ⟨bt1,e1,H⟩:=Qp H
 have e1:=QN.link e1
 obtain ⟨bt2,e2,H⟩:=Qp H
 have e2:=QN.link e2
 obtain ⟨bt3,e3,H⟩:=Qp H
 have e3:=Qa0.link e3
 try simp only [TN,simprocAttr, *]
 rcases QaN H with ⟨h4,H⟩|⟨h4,H⟩
 ·skip
  obtain ⟨bt4,e5,H⟩:=Qp H
  have e5:=QJ.link e5
  try simp only [TN,simprocAttr, *]
  refine (Qab.w k) _ _ _ _ _ _ _ _ _ _ H _ ?_
  first|(rw [Qc];done)|(rw [Qc];rfl)|(rw [Qc];simp only [LL];rfl)
 ·skip
  try simp only [TN,simprocAttr, *]
  refine (Qab.w k) _ _ _ _ _ _ _ _ _ _ H _ ?_
  first|(rw [Qc];done)|(rw [Qc];rfl)|(rw [Qc];simp only [LL];rfl)
end Go.Proofs.YtallpjhkmcgpoaaGreat.P
end
section
namespace Go.Proofs.YtallpjhkmcgpoaaGreat.P
open Go Go.RowKit Go.Proofs.YtallpjhkmcgpoaaGreat.V
def QaW.f (k:Nat) (l0:List S38) (a1:Int):Option Bool:=(QG.f k l0).bind fun t1=>(if t1=true then ((Qaw.f a1 0 (wrap64 ((l0.length:Int)-1))).bind fun t2=>(some t2)) else (some false))
theorem QaW.link {k:Nat} {l0:List S38} {a1:Int} {r:Bool} (H:QaW.f k l0 a1=some r):Qao env 43 [.deep false true 2 (l0.map e38), .i .i64 a1]=some ([.b r],[none]):=by
 unfold QaW.f at H
 refine QM (F:=QaW.F) (tm:=Qav [(0, .slc 0 [] 0 2 0 l0.length),(1, .i .i64 a1)]) (rs:=rsL [(0,some ⟨false,2,0,(l0.map e38)⟩)]) (nx:=1) (ow:=[false]) rfl (by rfl) (by simp only [SN]) (by simp only [SN]) (by decide) ?_
 show W env QaW.B _ (Qf [.t 4] [false] _)
 unfold QaW.B
 obtain ⟨t1,e1,H⟩:=Qp H
 have e1:=QG.link e1
 try simp only [TN,simprocAttr, *]
 rcases QaN H with ⟨h2,H⟩|⟨h2,H⟩
 ·skip
  obtain ⟨t2,e3,H⟩:=Qp H
  have e3:=Qaw.link e3
  injection H with H;subst H
  try simp only [TN,simprocAttr, *]
  try rfl
 ·skip
  injection H with H;subst H
  try simp only [TN,simprocAttr, *]
  try rfl
end Go.Proofs.YtallpjhkmcgpoaaGreat.P
end
section
namespace Go.Proofs.YtallpjhkmcgpoaaGreat.P
open Go Go.RowKit Go.Proofs.YtallpjhkmcgpoaaGreat.V
def Q2.l0:Nat→(List S38)→Int→Int→Option Int
 | 0,_,_,_=>none
 | k+1,l0,a1,x5=>if x5<(l0.length:Int) then (if 0≤x5 then (if 0≤a1 then (if a1<(l0.length:Int) then (if ((Qac l0 x5).f1) > ((Qac l0 a1).f1) then (Q2.l0 k l0 a1 (wrap64 (x5+1))) else (some x5)) else none) else none) else none) else (some x5)
def Q2.f (k:Nat) (l0:List S38) (a1:Int):Option Int:=(QaW.f k l0 a1).bind fun t1=>(if t1=true then (Q2.l0 k l0 a1 (wrap64 (a1+1))) else (some (-1)))
def Q2.P0 (k:Nat):Prop:=∀ (l0:List S38) (a1:Int) (x5:Int) (r:Int),Q2.l0 k l0 a1 x5=some r→∀ st,canon 1 [0,1,5] st=⟨Qav [(0, .slc 0 [] 0 2 0 l0.length),(1, .i .i64 a1),(5, .i .i64 x5)],rsL [(0,some ⟨false,2,0,(l0.map e38)⟩)],1⟩→W env Q2.c1 st (Qb 0 (Qs env Q2.c0 (Qf [.t 4] [false] ([.i .i64 r],[none]))))
theorem Q2.s0 (k:Nat) (ih:Q2.P0 k):Q2.P0 (k+1):=by
 intro l0 a1 x5 r H st hst
 rw [Q2.l0] at H
 rw [Qat (show Q2.c1=C.loop 1 [0,1,5] Q2.d1 from rfl),hst]
 unfold Q2.d1
 try simp only [TN,simprocAttr, *, Q2.c0]
 rcases Qad H with ⟨h1,H⟩|⟨h1,H⟩
 ·skip
  obtain ⟨h2,h3,h4,H⟩:=i3 H
  try simp only [TN,simprocAttr, *, Q2.c0]
  rcases Qad H with ⟨h5,H⟩|⟨h5,H⟩
  ·skip
   try simp only [TN,simprocAttr, *, Q2.c0]
   refine ih _ _ _ _ H _ ?_
   first|(rw [Qc];done)|(rw [Qc];rfl)|(rw [Qc];simp only [LL];rfl)
  ·skip
   injection H with H;subst H
   try simp only [TN,simprocAttr, *, Q2.c0]
   try rfl
 ·skip
  injection H with H;subst H
  try simp only [TN,simprocAttr, *, Q2.c0]
  try rfl
theorem Q2.w:∀ k,Q2.P0 k:=by
 intro k
 induction k with
 | zero=>exact by intro l0 a1 x5 r H;cases (show (none:Option Int)=some r from H)
 | succ k ih=>exact Q2.s0 k ih
theorem Q2.link {k:Nat} {l0:List S38} {a1:Int} {r:Int} (H:Q2.f k l0 a1=some r):Qao env 86 [.deep false true 2 (l0.map e38), .i .i64 a1]=some ([.i .i64 r],[none]):=by
 unfold Q2.f at H
 refine QM (F:=Q2.F) (tm:=Qav [(0, .slc 0 [] 0 2 0 l0.length),(1, .i .i64 a1)]) (rs:=rsL [(0,some ⟨false,2,0,(l0.map e38)⟩)]) (nx:=1) (ow:=[false]) rfl (by rfl) (by simp only [SN]) (by simp only [SN]) (by decide) ?_
 show W env Q2.B _ (Qf [.t 4] [false] _)
 unfold Q2.B
 obtain ⟨t1,e1,H⟩:=Qp H
 have e1:=QaW.link e1
 try simp only [TN,simprocAttr, *, Q2.c0]
 rcases QaN H with ⟨h2,H⟩|⟨h2,H⟩
 ·skip
  try simp only [TN,simprocAttr, *, Q2.c0]
  refine (Q2.w k) _ _ _ _ H _ ?_
  first|(rw [Qc];done)|(rw [Qc];rfl)|(rw [Qc];simp only [LL];rfl)
 ·skip
  injection H with H;subst H
  try simp only [TN,simprocAttr, *, Q2.c0]
  try rfl
end Go.Proofs.YtallpjhkmcgpoaaGreat.P
end
section
namespace Go.Proofs.YtallpjhkmcgpoaaGreat.P
open Go Go.RowKit Go.Proofs.YtallpjhkmcgpoaaGreat.V
def Qbh.f (k:Nat) (l0:List S38) (a1:Int) (a2:Int):Option Bool:=(QaW.f k l0 a1).bind fun t1=>(if t1=true then ((QaW.f k l0 a2).bind fun t2=>(if t2=true then (if a2 > a1 then ((Q2.f k l0 a1).bind fun t3=>(some (decide (a2<t3)))) else (some false)) else (some false))) else (some false))
theorem Qbh.link {k:Nat} {l0:List S38} {a1:Int} {a2:Int} {r:Bool} (H:Qbh.f k l0 a1 a2=some r):Qao env 44 [.deep false true 2 (l0.map e38), .i .i64 a1, .i .i64 a2]=some ([.b r],[none]):=by
 unfold Qbh.f at H
 refine QM (F:=Qbh.F) (tm:=Qav [(0, .slc 0 [] 0 2 0 l0.length),(1, .i .i64 a1),(2, .i .i64 a2)]) (rs:=rsL [(0,some ⟨false,2,0,(l0.map e38)⟩)]) (nx:=1) (ow:=[false]) rfl (by rfl) (by simp only [SN]) (by simp only [SN]) (by decide) ?_
 show W env Qbh.B _ (Qf [.t 6] [false] _)
 unfold Qbh.B
 obtain ⟨t1,e1,H⟩:=Qp H
 have e1:=QaW.link e1
 try simp only [TN,simprocAttr, *]
 rcases QaN H with ⟨h2,H⟩|⟨h2,H⟩
 ·skip
  obtain ⟨t2,e3,H⟩:=Qp H
  have e3:=QaW.link e3
  try simp only [TN,simprocAttr, *]
  rcases QaN H with ⟨h4,H⟩|⟨h4,H⟩
  ·skip
   try simp only [TN,simprocAttr, *]
   rcases Qad H with ⟨h5,H⟩|⟨h5,H⟩
   ·skip
    obtain ⟨t3,e6,H⟩:=Qp H
    have e6:=Q2.link e6
    injection H with H;subst H
    try simp only [TN,simprocAttr, *]
    try rfl
   ·skip
    injection H with H;subst H
    try simp only [TN,simprocAttr, *]
    try rfl
  ·skip
   injection H with H;subst H
   try simp only [TN,simprocAttr, *]
   try rfl
 ·skip
  injection H with H;subst H
  try simp only [TN,simprocAttr, *]
  try rfl
end Go.Proofs.YtallpjhkmcgpoaaGreat.P
end
section
namespace Go.Proofs.YtallpjhkmcgpoaaGreat.P
open Go Go.RowKit Go.Proofs.YtallpjhkmcgpoaaGreat.V
mutual
def Qu.l0:Nat→(List S38)→(List S38)→(List S40)→Int→Option Bool
 | 0,_,_,_,_=>none
 | k+1,l0,l1,l2,x7=>if x7<(l2.length:Int) then (if 0≤x7 then ((QaW.f k l0 ((Qah l2 x7).f0)).bind fun t1=>(if t1=true then ((QaW.f k l1 ((Qah l2 x7).f1)).bind fun t2=>(if t2=true then (if x7 > 0 then (if 0≤wrap64 (x7-1) then (if wrap64 (x7-1)<(l2.length:Int) then (if ((Qah l2 x7).f0)≤((Qah l2 (wrap64 (x7-1))).f0) then (some false) else (Qu.l1 k l0 l1 l2 x7 0)) else none) else none) else (Qu.l1 k l0 l1 l2 x7 0)) else (some false))) else (some false))) else none) else ((QG.f k l0).bind fun t5=>(if t5=true then ((QG.f k l1).bind fun t6=>(some t6)) else (some false)))
def Qu.l1:Nat→(List S38)→(List S38)→(List S40)→Int→Int→Option Bool
 | 0,_,_,_,_,_=>none
 | k+1,l0,l1,l2,x7,x8=>if x8<x7 then (if 0≤x8 then (if x8<(l2.length:Int) then (if 0≤x7 then (if x7<(l2.length:Int) then (if ((Qah l2 x8).f1)≥((Qah l2 x7).f1) then (some false) else ((Qbh.f k l0 ((Qah l2 x8).f0) ((Qah l2 x7).f0)).bind fun t3=>((Qbh.f k l1 ((Qah l2 x8).f1) ((Qah l2 x7).f1)).bind fun t4=>(if t3=t4 then (Qu.l1 k l0 l1 l2 x7 (wrap64 (x8+1))) else (some false))))) else none) else none) else none) else none) else (Qu.l0 k l0 l1 l2 (wrap64 (x7+1)))
end
def Qu.f (k:Nat) (l0:List S38) (l1:List S38) (l2:List S40):Option Bool:=Qu.l0 k l0 l1 l2 0
def Qu.P0 (k:Nat):Prop:=∀ (l0:List S38) (l1:List S38) (l2:List S40) (x7:Int) (r:Bool),Qu.l0 k l0 l1 l2 x7=some r→∀ st,canon 3 [0,1,2,7] st=⟨Qav [(0, .slc 0 [] 0 2 0 l0.length),(1, .slc 1 [] 0 2 0 l1.length),(2, .slc 2 [] 0 2 0 l2.length),(7, .i .i64 x7)],rsL [(0,some ⟨false,2,0,(l0.map e38)⟩),(1,some ⟨false,2,0,(l1.map e38)⟩),(2,some ⟨false,2,0,(l2.map e40)⟩)],3⟩→W env Qu.c1 st (Qb 0 (Qs env Qu.c0 (Qf [.t 6] [false,false,false] ([.b r],[none,none,none]))))
def Qu.P1 (k:Nat):Prop:=∀ (l0:List S38) (l1:List S38) (l2:List S40) (x7:Int) (x8:Int) (r:Bool),Qu.l1 k l0 l1 l2 x7 x8=some r→∀ st,canon 3 [0,1,2,7,8] st=⟨Qav [(0, .slc 0 [] 0 2 0 l0.length),(1, .slc 1 [] 0 2 0 l1.length),(2, .slc 2 [] 0 2 0 l2.length),(7, .i .i64 x7),(8, .i .i64 x8)],rsL [(0,some ⟨false,2,0,(l0.map e38)⟩),(1,some ⟨false,2,0,(l1.map e38)⟩),(2,some ⟨false,2,0,(l2.map e40)⟩)],3⟩→W env Qu.c3 st (Qb 2 (Qb 1 (Qs env Qu.c2 (Ql env Qu.c1 (Qb 0 (Qs env Qu.c0 (Qf [.t 6] [false,false,false] ([.b r],[none,none,none]))))))))
theorem Qu.s0 (k:Nat) (ih:Qu.P0 k∧Qu.P1 k):Qu.P0 (k+1):=by
 intro l0 l1 l2 x7 r H st hst
 rw [Qu.l0] at H
 rw [Qat (show Qu.c1=C.loop 3 [0,1,2,7] Qu.d1 from rfl),hst]
 unfold Qu.d1
 try simp only [TN,simprocAttr, *, Qu.c0,Qu.c2]
 rcases Qad H with ⟨h1,H⟩|⟨h1,H⟩
 ·skip
  obtain ⟨h2,H⟩:=i1 H
  obtain ⟨t1,e3,H⟩:=Qp H
  have e3:=QaW.link e3
  try simp only [TN,simprocAttr, *, Qu.c0,Qu.c2]
  rcases QaN H with ⟨h4,H⟩|⟨h4,H⟩
  ·skip
   obtain ⟨t2,e5,H⟩:=Qp H
   have e5:=QaW.link e5
   try simp only [TN,simprocAttr, *, Qu.c0,Qu.c2]
   rcases QaN H with ⟨h6,H⟩|⟨h6,H⟩
   ·skip
    try simp only [TN,simprocAttr, *, Qu.c0,Qu.c2]
    rcases Qad H with ⟨h7,H⟩|⟨h7,H⟩
    ·skip
     obtain ⟨h8,h9,H⟩:=i2 H
     try simp only [TN,simprocAttr, *, Qu.c0,Qu.c2]
     rcases Qad H with ⟨h10,H⟩|⟨h10,H⟩
     ·skip
      injection H with H;subst H
      try simp only [TN,simprocAttr, *, Qu.c0,Qu.c2]
      try rfl
     ·skip
      try simp only [TN,simprocAttr, *, Qu.c0,Qu.c2]
      refine ih.2 _ _ _ _ _ _ H _ ?_
      first|(rw [Qc];done)|(rw [Qc];rfl)|(rw [Qc];simp only [LL];rfl)
    ·skip
     try simp only [TN,simprocAttr, *, Qu.c0,Qu.c2]
     refine ih.2 _ _ _ _ _ _ H _ ?_
     first|(rw [Qc];done)|(rw [Qc];rfl)|(rw [Qc];simp only [LL];rfl)
   ·skip
    injection H with H;subst H
    try simp only [TN,simprocAttr, *, Qu.c0,Qu.c2]
    try rfl
  ·skip
   injection H with H;subst H
   try simp only [TN,simprocAttr, *, Qu.c0,Qu.c2]
   try rfl
 ·skip
  obtain ⟨t5,e11,H⟩:=Qp H
  have e11:=QG.link e11
  try simp only [TN,simprocAttr, *, Qu.c0,Qu.c2]
  rcases QaN H with ⟨h12,H⟩|⟨h12,H⟩
  ·skip
   obtain ⟨t6,e13,H⟩:=Qp H
   have e13:=QG.link e13
   injection H with H;subst H
   try simp only [TN,simprocAttr, *, Qu.c0,Qu.c2]
   try rfl
  ·skip
   injection H with H;subst H
   try simp only [TN,simprocAttr, *, Qu.c0,Qu.c2]
   try rfl
theorem Qu.s1 (k:Nat) (ih:Qu.P0 k∧Qu.P1 k):Qu.P1 (k+1):=by
 intro l0 l1 l2 x7 x8 r H st hst
 rw [Qu.l1] at H
 rw [Qat (show Qu.c3=C.loop 3 [0,1,2,7,8] Qu.d3 from rfl),hst]
 unfold Qu.d3
 try simp only [TN,simprocAttr, *, Qu.c0,Qu.c2]
 rcases Qad H with ⟨h1,H⟩|⟨h1,H⟩
 ·skip
  obtain ⟨h2,h3,h4,h5,H⟩:=i4 H
  try simp only [TN,simprocAttr, *, Qu.c0,Qu.c2]
  rcases Qad H with ⟨h6,H⟩|⟨h6,H⟩
  ·skip
   injection H with H;subst H
   try simp only [TN,simprocAttr, *, Qu.c0,Qu.c2]
   try rfl
  ·skip
   obtain ⟨t3,e7,H⟩:=Qp H
   have e7:=Qbh.link e7
   obtain ⟨t4,e8,H⟩:=Qp H
   have e8:=Qbh.link e8
   try simp only [TN,simprocAttr, *, Qu.c0,Qu.c2]
   rcases ioq H with ⟨h9,H⟩|⟨h9,H⟩
   ·skip
    try simp only [TN,simprocAttr, *, Qu.c0,Qu.c2]
    refine ih.2 _ _ _ _ _ _ H _ ?_
    first|(rw [Qc];done)|(rw [Qc];rfl)|(rw [Qc];simp only [LL];rfl)
   ·skip
    injection H with H;subst H
    try simp only [TN,simprocAttr, *, Qu.c0,Qu.c2]
    try rfl
 ·skip
  try simp only [TN,simprocAttr, *, Qu.c0,Qu.c2]
  refine ih.1 _ _ _ _ _ H _ ?_
  first|(rw [Qc];done)|(rw [Qc];rfl)|(rw [Qc];simp only [LL];rfl)
theorem Qu.w:∀ k,Qu.P0 k∧Qu.P1 k:=by
 intro k
 induction k with
 | zero=>exact ⟨(by intro l0 l1 l2 x7 r H;cases (show (none:Option Bool)=some r from H)),(by intro l0 l1 l2 x7 x8 r H;cases (show (none:Option Bool)=some r from H))⟩
 | succ k ih=>exact ⟨(Qu.s0 k ih),(Qu.s1 k ih)⟩
theorem Qu.link {k:Nat} {l0:List S38} {l1:List S38} {l2:List S40} {r:Bool} (H:Qu.f k l0 l1 l2=some r):Qao env 8 [.deep false true 2 (l0.map e38), .deep false true 2 (l1.map e38), .deep false true 2 (l2.map e40)]=some ([.b r],[none,none,none]):=by
 unfold Qu.f at H
 refine QM (F:=Qu.F) (tm:=Qav [(0, .slc 0 [] 0 2 0 l0.length),(1, .slc 1 [] 0 2 0 l1.length),(2, .slc 2 [] 0 2 0 l2.length)]) (rs:=rsL [(0,some ⟨false,2,0,(l0.map e38)⟩),(1,some ⟨false,2,0,(l1.map e38)⟩),(2,some ⟨false,2,0,(l2.map e40)⟩)]) (nx:=3) (ow:=[false,false,false]) rfl (by rfl) (by simp only [SN]) (by simp only [SN]) (by decide) ?_
 show W env Qu.B _ (Qf [.t 6] [false,false,false] _)
 unfold Qu.B
 try simp only [TN,simprocAttr, *, Qu.c0,Qu.c2]
 refine (Qu.w k).1 _ _ _ _ _ H _ ?_
 first|(rw [Qc];done)|(rw [Qc];rfl)|(rw [Qc];simp only [LL];rfl)
end Go.Proofs.YtallpjhkmcgpoaaGreat.P
end
section
namespace Go.Proofs.YtallpjhkmcgpoaaGreat.P
open Go Go.RowKit Go.Proofs.YtallpjhkmcgpoaaGreat.V
mutual
def Qx.l0:Nat→(List S38)→(List S38)→(List S40)→Int→(List Int)→Int→Int→Option ((List S40)×Int×Int)
 | 0,_,_,_,_,_,_,_=>none
 | k+1,l1,l2,x7,x8,p0_0,p0_1,p0_2=>if x8<(l1.length:Int) then (Qx.l1 k l1 l2 x7 x8 0 p0_0 p0_1 p0_2) else (some (x7,p0_1,p0_2))
def Qx.l1:Nat→(List S38)→(List S38)→(List S40)→Int→Int→(List Int)→Int→Int→Option ((List S40)×Int×Int)
 | 0,_,_,_,_,_,_,_,_=>none
 | k+1,l1,l2,x7,x8,x9,p0_0,p0_1,p0_2=>if x9<3 then (if 0≤wrap64 ((x7.length:Int)-1) then (if wrap64 ((x7.length:Int)-1)<(x7.length:Int) then (if x7.length * 16≤140737488355328 then ((QC.f p0_0 p0_1 p0_2 3).bind fun bt1=>(if x7.length<8796093022208 then ((some (x7++([(⟨x8,wrap64 ((wrap64 (((Qah x7 (wrap64 ((x7.length:Int)-1))).f1)+1))+bt1.1)⟩:S40)]):List S40)).bind fun y0=>((Qu.f k l1 l2 y0).bind fun t2=>(if t2=true then (Qx.l0 k l1 l2 y0 (wrap64 (x8+1)) p0_0 bt1.2.1 bt1.2.2) else (Qx.l1 k l1 l2 x7 x8 (wrap64 (x9+1)) p0_0 bt1.2.1 bt1.2.2)))) else none)) else none) else none) else none) else (Qx.l0 k l1 l2 x7 (wrap64 (x8+1)) p0_0 p0_1 p0_2)
end
def Qx.f (k:Nat) (p0_0:List Int) (p0_1:Int) (p0_2:Int) (l1:List S38) (l2:List S38):Option ((List S40)×Int×Int):=Qx.l0 k l1 l2 ([(⟨0,0⟩:S40)]) 1 p0_0 p0_1 p0_2
def Qx.P0 (k:Nat):Prop:=∀ (l1:List S38) (l2:List S38) (x7:List S40) (x8:Int) (p0_0:List Int) (p0_1:Int) (p0_2:Int) (r:(List S40)×Int×Int),Qx.l0 k l1 l2 x7 x8 p0_0 p0_1 p0_2=some r→∀ st,canon 3 [0,1,2,7,8] st=⟨Qav [(0, .ptr 0 [] 0 0 0),(1, .slc 1 [] 0 2 0 l1.length),(2, .slc 2 [] 0 2 0 l2.length),(7, .slc 3 [] 0 2 0 x7.length),(8, .i .i64 x8)],rsL [(0,some ⟨true,3,0,[[.deep false true 1 (p0_0.map e8), .i .i64 p0_1, .i .i64 p0_2]]⟩),(1,some ⟨true,2,0,(l1.map e38)⟩),(2,some ⟨true,2,0,(l2.map e38)⟩),(3,some ⟨true,2,0,(x7.map e40)⟩)],4⟩→W env Qx.c1 st (Qb 0 (Qs env Qx.c0 (Qf [.t 6] [true,true,true] ([.deep false false 2 (r.1.map e40)],[some [[.deep false true 1 (p0_0.map e8), .i .i64 r.2.1, .i .i64 r.2.2]],some (l1.map e38),some (l2.map e38)]))))
def Qx.P1 (k:Nat):Prop:=∀ (l1:List S38) (l2:List S38) (x7:List S40) (x8:Int) (x9:Int) (p0_0:List Int) (p0_1:Int) (p0_2:Int) (r:(List S40)×Int×Int),Qx.l1 k l1 l2 x7 x8 x9 p0_0 p0_1 p0_2=some r→∀ st,canon 3 [0,1,2,7,8,9] st=⟨Qav [(0, .ptr 0 [] 0 0 0),(1, .slc 1 [] 0 2 0 l1.length),(2, .slc 2 [] 0 2 0 l2.length),(7, .slc 3 [] 0 2 0 x7.length),(8, .i .i64 x8),(9, .i .i64 x9)],rsL [(0,some ⟨true,3,0,[[.deep false true 1 (p0_0.map e8), .i .i64 p0_1, .i .i64 p0_2]]⟩),(1,some ⟨true,2,0,(l1.map e38)⟩),(2,some ⟨true,2,0,(l2.map e38)⟩),(3,some ⟨true,2,0,(x7.map e40)⟩)],4⟩→W env Qx.c3 st (Qb 2 (Qb 1 (Qs env Qx.c2 (Ql env Qx.c1 (Qb 0 (Qs env Qx.c0 (Qf [.t 6] [true,true,true] ([.deep false false 2 (r.1.map e40)],[some [[.deep false true 1 (p0_0.map e8), .i .i64 r.2.1, .i .i64 r.2.2]],some (l1.map e38),some (l2.map e38)]))))))))
theorem Qx.s0 (k:Nat) (ih:Qx.P0 k∧Qx.P1 k):Qx.P0 (k+1):=by
 intro l1 l2 x7 x8 p0_0 p0_1 p0_2 r H st hst
 rw [Qx.l0] at H
 rw [Qat (show Qx.c1=C.loop 3 [0,1,2,7,8] Qx.d1 from rfl),hst]
 unfold Qx.d1
 try simp only [TN,simprocAttr, *, Qx.c0,Qx.c2]
 rcases Qad H with ⟨h1,H⟩|⟨h1,H⟩
 ·skip
  try simp only [TN,simprocAttr, *, Qx.c0,Qx.c2]
  refine ih.2 _ _ _ _ _ _ _ _ _ H _ ?_
  first|(rw [Qc];done)|(rw [Qc];rfl)|(rw [Qc];simp only [LL];rfl)
 ·skip
  injection H with H;subst H
  try simp only [TN,simprocAttr, *, Qx.c0,Qx.c2]
  try rfl
theorem Qx.s1 (k:Nat) (ih:Qx.P0 k∧Qx.P1 k):Qx.P1 (k+1):=by
 intro l1 l2 x7 x8 x9 p0_0 p0_1 p0_2 r H st hst
 rw [Qx.l1] at H
 rw [Qat (show Qx.c3=C.loop 3 [0,1,2,7,8,9] Qx.d3 from rfl),hst]
 unfold Qx.d3
 try simp only [TN,simprocAttr, *, Qx.c0,Qx.c2]
 rcases Qad H with ⟨h1,H⟩|⟨h1,H⟩
 ·skip
  obtain ⟨h2,h3,h4,H⟩:=i3 H
  obtain ⟨bt1,e5,H⟩:=Qp H
  have e5:=QC.link e5
  obtain ⟨h6,H⟩:=i1 H
  have h7:(x7.length+1) * 16≤140737488355328:=by omega
  obtain ⟨_,hy8,H⟩:=Qci H;subst hy8
  obtain ⟨t2,e9,H⟩:=Qp H
  have e9:=Qu.link e9
  try simp only [TN,simprocAttr, *, Qx.c0,Qx.c2,@Qdl]
  rcases QaN H with ⟨h10,H⟩|⟨h10,H⟩
  ·skip
   try simp only [TN,simprocAttr, *, Qx.c0,Qx.c2,@Qdl]
   refine ih.1 _ _ _ _ _ _ _ _ H _ ?_
   first|(rw [Qc];done)|(rw [Qc];rfl)|(rw [Qc];simp only [LL];rfl)
  ·skip
   try simp only [TN,simprocAttr, *, Qx.c0,Qx.c2,@Qdl]
   refine ih.2 _ _ _ _ _ _ _ _ _ H _ ?_
   first|(rw [Qc];done)|(rw [Qc];rfl)|(rw [Qc];simp only [LL];rfl)
 ·skip
  try simp only [TN,simprocAttr, *, Qx.c0,Qx.c2]
  refine ih.1 _ _ _ _ _ _ _ _ H _ ?_
  first|(rw [Qc];done)|(rw [Qc];rfl)|(rw [Qc];simp only [LL];rfl)
theorem Qx.w:∀ k,Qx.P0 k∧Qx.P1 k:=by
 intro k
 induction k with
 | zero=>exact ⟨(by intro l1 l2 x7 x8 p0_0 p0_1 p0_2 r H;cases (show (none:Option ((List S40)×Int×Int))=some r from H)),(by intro l1 l2 x7 x8 x9 p0_0 p0_1 p0_2 r H;cases (show (none:Option ((List S40)×Int×Int))=some r from H))⟩
 | succ k ih=>exact ⟨(Qx.s0 k ih),(Qx.s1 k ih)⟩
theorem Qx.link {k:Nat} {p0_0:List Int} {p0_1:Int} {p0_2:Int} {l1:List S38} {l2:List S38} {r:(List S40)×Int×Int} (H:Qx.f k p0_0 p0_1 p0_2 l1 l2=some r):Qao env 110 [.deep true false 3 [[.deep false true 1 (p0_0.map e8), .i .i64 p0_1, .i .i64 p0_2]], .deep false false 2 (l1.map e38), .deep false false 2 (l2.map e38)]=some ([.deep false false 2 (r.1.map e40)],[some [[.deep false true 1 (p0_0.map e8), .i .i64 r.2.1, .i .i64 r.2.2]],some (l1.map e38),some (l2.map e38)]):=by
 unfold Qx.f at H
 refine QM (F:=Qx.F) (tm:=Qav [(0, .ptr 0 [] 0 0 0),(1, .slc 1 [] 0 2 0 l1.length),(2, .slc 2 [] 0 2 0 l2.length)]) (rs:=rsL [(0,some ⟨true,3,0,[[.deep false true 1 (p0_0.map e8), .i .i64 p0_1, .i .i64 p0_2]]⟩),(1,some ⟨true,2,0,(l1.map e38)⟩),(2,some ⟨true,2,0,(l2.map e38)⟩)]) (nx:=3) (ow:=[true,true,true]) rfl (by rfl) (by simp only [SN]) (by simp only [SN]) (by decide) ?_
 show W env Qx.B _ (Qf [.t 6] [true,true,true] _)
 unfold Qx.B
 try simp only [TN,simprocAttr, *, Qx.c0,Qx.c2,@Qdl]
 refine (Qx.w k).1 _ _ _ _ _ _ _ _ H _ ?_
 first|(rw [Qc];done)|(rw [Qc];rfl)|(rw [Qc];simp only [LL];rfl)
end Go.Proofs.YtallpjhkmcgpoaaGreat.P
end
section
namespace Go.Proofs.YtallpjhkmcgpoaaGreat.P
open Go Go.RowKit Go.Proofs.YtallpjhkmcgpoaaGreat.V
def Qbd.f (k:Nat) (p0_0:List Int) (p0_1:Int) (p0_2:Int) (l1:List S38) (l2:List S38):Option ((List S40)×Int×Int):=(Qx.f k p0_0 p0_1 p0_2 l1 l2).bind fun bt1=>((QC.f p0_0 bt1.2.1 bt1.2.2 (bt1.1.length:Int)).bind fun bt2=>((QC.f p0_0 bt2.2.1 bt2.2.2 12).bind fun bt3=>(if bt3.1=0 then ((QC.f p0_0 bt3.2.1 bt3.2.2 (wrap64 ((l2.length:Int)+1))).bind fun bt4=>(if 0≤bt2.1 then (if bt2.1<(bt1.1.length:Int) then (some ((bt1.1.set (bt2.1:Int).toNat (⟨(Qah bt1.1 bt2.1).f0,bt4.1⟩:S40)),bt4.2.1,bt4.2.2)) else none) else none)) else (if bt3.1=1 then ((QC.f p0_0 bt3.2.1 bt3.2.2 (wrap64 ((l1.length:Int)+2))).bind fun bt5=>(if 0≤bt2.1 then (if bt2.1<(bt1.1.length:Int) then (some ((bt1.1.set (bt2.1:Int).toNat (⟨wrap64 (bt5.1-1),(Qah bt1.1 bt2.1).f1⟩:S40)),bt5.2.1,bt5.2.2)) else none) else none)) else (if bt3.1=2 then (if 1≤(bt1.1.length:Int) then ((some (bt1.1.drop (1:Int).toNat:List S40)).bind fun y2=>(some (y2,bt3.2.1,bt3.2.2))) else none) else (if bt3.1=3 then (if 0≤bt2.1 then (if bt2.1<(bt1.1.length:Int) then (if bt1.1.length<8796093022208 then (some ((bt1.1++([(⟨(Qah bt1.1 bt2.1).f0,(Qah bt1.1 bt2.1).f1⟩:S40)])),bt3.2.1,bt3.2.2)) else none) else none) else none) else (some (bt1.1,bt3.2.1,bt3.2.2))))))))
theorem Qbd.link {k:Nat} {p0_0:List Int} {p0_1:Int} {p0_2:Int} {l1:List S38} {l2:List S38} {r:(List S40)×Int×Int} (H:Qbd.f k p0_0 p0_1 p0_2 l1 l2=some r):Qao env 74 [.deep true false 3 [[.deep false true 1 (p0_0.map e8), .i .i64 p0_1, .i .i64 p0_2]], .deep false false 2 (l1.map e38), .deep false false 2 (l2.map e38)]=some ([.deep false false 2 (r.1.map e40)],[some [[.deep false true 1 (p0_0.map e8), .i .i64 r.2.1, .i .i64 r.2.2]],some (l1.map e38),some (l2.map e38)]):=by
 unfold Qbd.f at H
 refine QM (F:=Qbd.F) (tm:=Qav [(0, .ptr 0 [] 0 0 0),(1, .slc 1 [] 0 2 0 l1.length),(2, .slc 2 [] 0 2 0 l2.length)]) (rs:=rsL [(0,some ⟨true,3,0,[[.deep false true 1 (p0_0.map e8), .i .i64 p0_1, .i .i64 p0_2]]⟩),(1,some ⟨true,2,0,(l1.map e38)⟩),(2,some ⟨true,2,0,(l2.map e38)⟩)]) (nx:=3) (ow:=[true,true,true]) rfl (by rfl) (by simp only [SN]) (by simp only [SN]) (by decide) ?_
 show W env Qbd.B _ (Qf [.t 6] [true,true,true] _)
 unfold Qbd.B
 obtain ⟨bt1,e1,H⟩:=Qp H
 have e1:=Qx.link e1
 obtain ⟨bt2,e2,H⟩:=Qp H
 have e2:=QC.link e2
 obtain ⟨bt3,e3,H⟩:=Qp H
 have e3:=QC.link e3
 try simp only [TN,simprocAttr, *]
 rcases ioq H with ⟨h4,H⟩|⟨h4,H⟩
 ·skip
  obtain ⟨bt4,e5,H⟩:=Qp H
  have e5:=QC.link e5
  obtain ⟨h6,h7,H⟩:=i2 H
  injection H with H;subst H
  try simp only [TN,simprocAttr, *]
  try rfl
 ·skip
  try simp only [TN,simprocAttr, *]
  rcases ioq H with ⟨h8,H⟩|⟨h8,H⟩
  ·skip
   obtain ⟨bt5,e9,H⟩:=Qp H
   have e9:=QC.link e9
   obtain ⟨h10,h11,H⟩:=i2 H
   injection H with H;subst H
   try simp only [TN,simprocAttr, *]
   try rfl
  ·skip
   try simp only [TN,simprocAttr, *]
   rcases ioq H with ⟨h12,H⟩|⟨h12,H⟩
   ·skip
    obtain ⟨h13,H⟩:=i1 H
    obtain ⟨y2,hy2,H⟩:=Qci H
    have h14:bt1.1.length-1=List.length y2:=by rw [←hy2];simp only [List.length_drop,List.length_take] <;> omega
    have cw14:(List.drop (1) bt1.1).take (List.length y2)=y2:=by rw [←hy2];exact List.take_length
    have g14:∀ {j:Int}, 0≤j→j<(List.length y2:Int)→(bt1.1.map e40)[1+j.toNat]? = some (e40 (Qah y2 j)):=fun h1 h2=>Qf0 cw14 h1 h2
    have w14:=QcT (e:=e40) cw14
    injection H with H;subst H
    try simp only [TN,simprocAttr, *]
    try rfl
   ·skip
    try simp only [TN,simprocAttr, *]
    rcases ioq H with ⟨h15,H⟩|⟨h15,H⟩
    ·skip
     obtain ⟨h16,h17,H⟩:=i2 H
     obtain ⟨h18,H⟩:=i1 H
     have h19:(bt1.1.length+1) * 16≤140737488355328:=by omega
     injection H with H;subst H
     try simp only [TN,simprocAttr, *, @Qdl]
     try rfl
    ·skip
     injection H with H;subst H
     try simp only [TN,simprocAttr, *]
     try rfl
end Go.Proofs.YtallpjhkmcgpoaaGreat.P
end
section
namespace Go.Proofs.YtallpjhkmcgpoaaGreat.P
open Go Go.RowKit Go.Proofs.YtallpjhkmcgpoaaGreat.V
def Qbb.f (k:Nat) (p0_0:List Int) (p0_1:Int) (p0_2:Int):Option ((List S38)×(List S38)×(List Int)×(List Int)×(List Int)×(List S40)×Int×Int):=(Qab.f k p0_0 p0_1 p0_2 8).bind fun bt1=>((Qbd.f k p0_0 bt1.2.2.2.2.2.1 bt1.2.2.2.2.2.2 bt1.1 bt1.2.1).bind fun bt2=>(some (bt1.1,bt1.2.1,bt1.2.2.1,bt1.2.2.2.1,bt1.2.2.2.2.1,bt2.1,bt2.2.1,bt2.2.2)))
theorem Qbb.link {k:Nat} {p0_0:List Int} {p0_1:Int} {p0_2:Int} {r:(List S38)×(List S38)×(List Int)×(List Int)×(List Int)×(List S40)×Int×Int} (H:Qbb.f k p0_0 p0_1 p0_2=some r):Qao env 29 [.deep true false 3 [[.deep false true 1 (p0_0.map e8), .i .i64 p0_1, .i .i64 p0_2]]]=some ([.deep false false 2 (r.1.map e38), .deep false false 2 (r.2.1.map e38), .agg [.deep false false 1 (r.2.2.1.map eI), .deep false false 1 (r.2.2.2.1.map eI), .deep false false 1 (r.2.2.2.2.1.map eI)], .deep false false 2 (r.2.2.2.2.2.1.map e40)],[some [[.deep false true 1 (p0_0.map e8), .i .i64 r.2.2.2.2.2.2.1, .i .i64 r.2.2.2.2.2.2.2]]]):=by
 unfold Qbb.f at H
 refine QM (F:=Qbb.F) (tm:=Qav [(0, .ptr 0 [] 0 0 0)]) (rs:=rsL [(0,some ⟨true,3,0,[[.deep false true 1 (p0_0.map e8), .i .i64 p0_1, .i .i64 p0_2]]⟩)]) (nx:=1) (ow:=[true]) rfl (by rfl) (by simp only [SN]) (by simp only [SN]) (by decide) ?_
 show W env Qbb.B _ (Qf [.t 2, .t 3, .cell 4 (some 3), .t 5] [true] _)
 unfold Qbb.B
 obtain ⟨bt1,e1,H⟩:=Qp H
 have e1:=Qab.link e1
 obtain ⟨bt2,e2,H⟩:=Qp H
 have e2:=Qbd.link e2
 injection H with H;subst H
 try simp only [TN,simprocAttr, *]
 try rfl
end Go.Proofs.YtallpjhkmcgpoaaGreat.P
end
section
namespace Go.Proofs.YtallpjhkmcgpoaaGreat.P
open Go Go.RowKit Go.Proofs.YtallpjhkmcgpoaaGreat.V
def Q5.l0:Nat→(List Int)→Int→Int→Option ((List Int)×Int×Int)
 | 0,_,_,_=>none
 | k+1,l0,x3,x4=>if x4<(l0.length:Int) then (if x4<4000 then (if 0≤x4 then (Q5.l0 k l0 (Go.bits .and .i64 (wrap64 ((wrap64 ((wrap64 (x3 * 131))+(wrap64 (rd l0 x4))))+7)) 1073741823) (wrap64 (x4+1))) else none) else (some (l0,0,x3))) else (some (l0,0,x3))
def Q5.f (k:Nat) (l0:List Int):Option ((List Int)×Int×Int):=Q5.l0 k l0 (wrap64 (10101+(l0.length:Int))) 0
def Q5.P0 (k:Nat):Prop:=∀ (l0:List Int) (x3:Int) (x4:Int) (r:(List Int)×Int×Int),Q5.l0 k l0 x3 x4=some r→∀ st,canon 1 [0,3,4] st=⟨Qav [(0, .slc 0 [] 0 1 0 l0.length),(3, .i .i64 x3),(4, .i .i64 x4)],rsL [(0,some ⟨false,1,0,(l0.map e8)⟩)],1⟩→W env Q5.c1 st (Qb 0 (Qs env Q5.c0 (Qf [.t 2] [false] ([.deep true false 3 [[.deep false true 1 (r.1.map e8), .i .i64 r.2.1, .i .i64 r.2.2]]],[none]))))
theorem Q5.s0 (k:Nat) (ih:Q5.P0 k):Q5.P0 (k+1):=by
 intro l0 x3 x4 r H st hst
 rw [Q5.l0] at H
 rw [Qat (show Q5.c1=C.loop 1 [0,3,4] Q5.d1 from rfl),hst]
 unfold Q5.d1
 try simp only [TN,simprocAttr, *, Q5.c0]
 rcases Qad H with ⟨h1,H⟩|⟨h1,H⟩
 ·skip
  try simp only [TN,simprocAttr, *, Q5.c0]
  rcases Qad H with ⟨h2,H⟩|⟨h2,H⟩
  ·skip
   obtain ⟨h3,H⟩:=i1 H
   try simp only [TN,simprocAttr, *, Q5.c0]
   refine ih _ _ _ _ H _ ?_
   first|(rw [Qc];done)|(rw [Qc];rfl)|(rw [Qc];simp only [LL];rfl)
  ·skip
   injection H with H;subst H
   try simp only [TN,simprocAttr, *, Q5.c0]
   try rfl
 ·skip
  injection H with H;subst H
  try simp only [TN,simprocAttr, *, Q5.c0]
  try rfl
theorem Q5.w:∀ k,Q5.P0 k:=by
 intro k
 induction k with
 | zero=>exact by intro l0 x3 x4 r H;cases (show (none:Option ((List Int)×Int×Int))=some r from H)
 | succ k ih=>exact Q5.s0 k ih
theorem Q5.link {k:Nat} {l0:List Int} {r:(List Int)×Int×Int} (H:Q5.f k l0=some r):Qao env 30 [.deep false true 1 (l0.map e8)]=some ([.deep true false 3 [[.deep false true 1 (r.1.map e8), .i .i64 r.2.1, .i .i64 r.2.2]]],[none]):=by
 unfold Q5.f at H
 refine QM (F:=Q5.F) (tm:=Qav [(0, .slc 0 [] 0 1 0 l0.length)]) (rs:=rsL [(0,some ⟨false,1,0,(l0.map e8)⟩)]) (nx:=1) (ow:=[false]) rfl (by rfl) (by simp only [SN]) (by simp only [SN]) (by decide) ?_
 show W env Q5.B _ (Qf [.t 2] [false] _)
 unfold Q5.B
 try simp only [TN,simprocAttr, *, Q5.c0]
 refine (Q5.w k) _ _ _ _ H _ ?_
 first|(rw [Qc];done)|(rw [Qc];rfl)|(rw [Qc];simp only [LL];rfl)
end Go.Proofs.YtallpjhkmcgpoaaGreat.P
end
section
namespace Go.Proofs.YtallpjhkmcgpoaaGreat.P
open Go Go.RowKit Go.Proofs.YtallpjhkmcgpoaaGreat.V
def QaD.f (k:Nat) (l0:List Int):Option ((List S38)×(List S38)×(List Int)×(List Int)×(List Int)×(List S40)):=(Q5.f k l0).bind fun bt1=>((Qbb.f k bt1.1 bt1.2.1 bt1.2.2).bind fun bt2=>(some (bt2.1,bt2.2.1,bt2.2.2.1,bt2.2.2.2.1,bt2.2.2.2.2.1,bt2.2.2.2.2.2.1)))
theorem QaD.link {k:Nat} {l0:List Int} {r:(List S38)×(List S38)×(List Int)×(List Int)×(List Int)×(List S40)} (H:QaD.f k l0=some r):Qao env 6 [.deep false true 1 (l0.map e8)]=some ([.deep false false 2 (r.1.map e38), .deep false false 2 (r.2.1.map e38), .agg [.deep false false 1 (r.2.2.1.map eI), .deep false false 1 (r.2.2.2.1.map eI), .deep false false 1 (r.2.2.2.2.1.map eI)], .deep false false 2 (r.2.2.2.2.2.map e40)],[none]):=by
 unfold QaD.f at H
 refine QM (F:=QaD.F) (tm:=Qav [(0, .slc 0 [] 0 1 0 l0.length)]) (rs:=rsL [(0,some ⟨false,1,0,(l0.map e8)⟩)]) (nx:=1) (ow:=[false]) rfl (by rfl) (by simp only [SN]) (by simp only [SN]) (by decide) ?_
 show W env QaD.B _ (Qf [.t 2, .t 3, .cell 4 (some 3), .t 5] [false] _)
 unfold QaD.B
 obtain ⟨bt1,e1,H⟩:=Qp H
 have e1:=Q5.link e1
 obtain ⟨bt2,e2,H⟩:=Qp H
 have e2:=Qbb.link e2
 injection H with H;subst H
 try simp only [TN,simprocAttr, *]
 try rfl
end Go.Proofs.YtallpjhkmcgpoaaGreat.P
end
section
namespace Go.Proofs.YtallpjhkmcgpoaaGreat.P
open Go Go.RowKit Go.Proofs.YtallpjhkmcgpoaaGreat.V
def Qaa.f (a0:Int) (a1:Int) (a2:Int):Option Bool:=if a1≤a0 then (some (decide (a0≤a2))) else (some false)
theorem Qaa.link {a0:Int} {a1:Int} {a2:Int} {r:Bool} (H:Qaa.f a0 a1 a2=some r):Qao env 88 [.i .i64 a0, .i .i64 a1, .i .i64 a2]=some ([.b r],[]):=by
 unfold Qaa.f at H
 refine QM (F:=Qaa.F) (tm:=Qav [(0, .i .i64 a0),(1, .i .i64 a1),(2, .i .i64 a2)]) (rs:=rsL []) (nx:=0) (ow:=[]) rfl (by rfl) (by simp only [SN]) (by simp only [SN]) (by decide) ?_
 show W env Qaa.B _ (Qf [.t 6] [] _)
 unfold Qaa.B
 try simp only [TN,simprocAttr, *]
 rcases Qad H with ⟨h1,H⟩|⟨h1,H⟩
 ·skip
  injection H with H;subst H
  try simp only [TN,simprocAttr, *]
  try rfl
 ·skip
  injection H with H;subst H
  try simp only [TN,simprocAttr, *]
  try rfl
end Go.Proofs.YtallpjhkmcgpoaaGreat.P
end
section
namespace Go.Proofs.YtallpjhkmcgpoaaGreat.P
open Go Go.RowKit Go.Proofs.YtallpjhkmcgpoaaGreat.V
def Qar.f (a0:Int):Option Bool:=(Qaa.f a0 0 5).bind fun t1=>(some t1)
theorem Qar.link {a0:Int} {r:Bool} (H:Qar.f a0=some r):Qao env 89 [.i .i64 a0]=some ([.b r],[]):=by
 unfold Qar.f at H
 refine QM (F:=Qar.F) (tm:=Qav [(0, .i .i64 a0)]) (rs:=rsL []) (nx:=0) (ow:=[]) rfl (by rfl) (by simp only [SN]) (by simp only [SN]) (by decide) ?_
 show W env Qar.B _ (Qf [.t 2] [] _)
 unfold Qar.B
 obtain ⟨t1,e1,H⟩:=Qp H
 have e1:=Qaa.link e1
 injection H with H;subst H
 try simp only [TN,simprocAttr, *]
 try rfl
end Go.Proofs.YtallpjhkmcgpoaaGreat.P
end
section
namespace Go.Proofs.YtallpjhkmcgpoaaGreat.P
open Go Go.RowKit Go.Proofs.YtallpjhkmcgpoaaGreat.V
def Qa2.f (l0:List S38) (a1:Int):Option Bool:=if a1=0 then (if 0<(l0.length:Int) then (some (((Qac l0 0).f1) == 0)) else none) else (if 0≤a1 then (if a1<(l0.length:Int) then (if 0≤wrap64 (a1-1) then (if wrap64 (a1-1)<(l0.length:Int) then ((Qaa.f ((Qac l0 a1).f1) 1 (wrap64 (((Qac l0 (wrap64 (a1-1))).f1)+1))).bind fun t1=>(some t1)) else none) else none) else none) else none)
theorem Qa2.link {l0:List S38} {a1:Int} {r:Bool} (H:Qa2.f l0 a1=some r):Qao env 90 [.deep false true 2 (l0.map e38), .i .i64 a1]=some ([.b r],[none]):=by
 unfold Qa2.f at H
 refine QM (F:=Qa2.F) (tm:=Qav [(0, .slc 0 [] 0 2 0 l0.length),(1, .i .i64 a1)]) (rs:=rsL [(0,some ⟨false,2,0,(l0.map e38)⟩)]) (nx:=1) (ow:=[false]) rfl (by rfl) (by simp only [SN]) (by simp only [SN]) (by decide) ?_
 show W env Qa2.B _ (Qf [.t 4] [false] _)
 unfold Qa2.B
 try simp only [TN,simprocAttr, *]
 rcases ioq H with ⟨h1,H⟩|⟨h1,H⟩
 ·skip
  obtain ⟨h2,H⟩:=i1 H
  injection H with H;subst H
  try simp only [TN,simprocAttr, *]
  try rfl
 ·skip
  obtain ⟨h3,h4,h5,h6,H⟩:=i4 H
  obtain ⟨t1,e7,H⟩:=Qp H
  have e7:=Qaa.link e7
  injection H with H;subst H
  try simp only [TN,simprocAttr, *]
  try rfl
end Go.Proofs.YtallpjhkmcgpoaaGreat.P
end
section
namespace Go.Proofs.YtallpjhkmcgpoaaGreat.P
open Go Go.RowKit Go.Proofs.YtallpjhkmcgpoaaGreat.V
def QE.l0:Nat→(List S38)→(List S38)→Int→Int→Option Bool
 | 0,_,_,_,_=>none
 | k+1,l0,x9,x10,x11=>if x11<x10 then (if 0≤x11 then (if x11<(l0.length:Int) then ((Qar.f ((Qac l0 x11).f0)).bind fun t2=>(if t2=true then ((Qaa.f ((Qac l0 x11).f1) 0 12).bind fun t3=>(if t3=true then ((Qa2.f l0 x11).bind fun t4=>(if t4=true then (QE.l0 k l0 l0 x10 (wrap64 (x11+1))) else (some false))) else (some false))) else (some false))) else none) else none) else (some true)
def QE.f (k:Nat) (l0:List S38):Option Bool:=(Qaa.f (l0.length:Int) 1 24).bind fun t1=>(if t1=true then (QE.l0 k l0 l0 (l0.length:Int) 0) else (some false))
def QE.P0 (k:Nat):Prop:=∀ (l0:List S38) (x9:List S38) (x10:Int) (x11:Int) (r:Bool),l0=x9→QE.l0 k l0 x9 x10 x11=some r→∀ st,canon 1 [0,9,10,11] st=⟨Qav [(0, .slc 0 [] 0 2 0 l0.length),(9, .slc 0 [] 0 2 0 l0.length),(10, .i .i64 x10),(11, .i .i64 x11)],rsL [(0,some ⟨false,2,0,(l0.map e38)⟩)],1⟩→W env QE.c1 st (Qb 0 (Qs env QE.c0 (Qf [.t 2] [false] ([.b r],[none]))))
theorem QE.s0 (k:Nat) (ih:QE.P0 k):QE.P0 (k+1):=by
 intro l0 x9 x10 x11 r a0 H st hst
 subst a0
 rw [QE.l0] at H
 rw [Qat (show QE.c1=C.loop 1 [0,9,10,11] QE.d1 from rfl),hst]
 unfold QE.d1
 try simp only [TN,simprocAttr, *, QE.c0]
 rcases Qad H with ⟨h1,H⟩|⟨h1,H⟩
 ·skip
  obtain ⟨h2,h3,H⟩:=i2 H
  obtain ⟨t2,e4,H⟩:=Qp H
  have e4:=Qar.link e4
  try simp only [TN,simprocAttr, *, QE.c0]
  rcases QaN H with ⟨h5,H⟩|⟨h5,H⟩
  ·skip
   obtain ⟨t3,e6,H⟩:=Qp H
   have e6:=Qaa.link e6
   try simp only [TN,simprocAttr, *, QE.c0]
   rcases QaN H with ⟨h7,H⟩|⟨h7,H⟩
   ·skip
    obtain ⟨t4,e8,H⟩:=Qp H
    have e8:=Qa2.link e8
    try simp only [TN,simprocAttr, *, QE.c0]
    rcases QaN H with ⟨h9,H⟩|⟨h9,H⟩
    ·skip
     try simp only [TN,simprocAttr, *, QE.c0]
     refine ih _ _ _ _ _ rfl H _ ?_
     first|(rw [Qc];done)|(rw [Qc];rfl)|(rw [Qc];simp only [LL];rfl)
    ·skip
     injection H with H;subst H
     try simp only [TN,simprocAttr, *, QE.c0]
     try rfl
   ·skip
    injection H with H;subst H
    try simp only [TN,simprocAttr, *, QE.c0]
    try rfl
  ·skip
   injection H with H;subst H
   try simp only [TN,simprocAttr, *, QE.c0]
   try rfl
 ·skip
  injection H with H;subst H
  try simp only [TN,simprocAttr, *, QE.c0]
  try rfl
theorem QE.w:∀ k,QE.P0 k:=by
 intro k
 induction k with
 | zero=>exact by intro l0 x9 x10 x11 r _ H;cases (show (none:Option Bool)=some r from H)
 | succ k ih=>exact QE.s0 k ih
theorem QE.link {k:Nat} {l0:List S38} {r:Bool} (H:QE.f k l0=some r):Qao env 46 [.deep false true 2 (l0.map e38)]=some ([.b r],[none]):=by
 unfold QE.f at H
 refine QM (F:=QE.F) (tm:=Qav [(0, .slc 0 [] 0 2 0 l0.length)]) (rs:=rsL [(0,some ⟨false,2,0,(l0.map e38)⟩)]) (nx:=1) (ow:=[false]) rfl (by rfl) (by simp only [SN]) (by simp only [SN]) (by decide) ?_
 show W env QE.B _ (Qf [.t 2] [false] _)
 unfold QE.B
 obtain ⟨t1,e1,H⟩:=Qp H
 have e1:=Qaa.link e1
 try simp only [TN,simprocAttr, *, QE.c0]
 rcases QaN H with ⟨h2,H⟩|⟨h2,H⟩
 ·skip
  try simp only [TN,simprocAttr, *, QE.c0]
  refine (QE.w k) _ _ _ _ _ rfl H _ ?_
  first|(rw [Qc];done)|(rw [Qc];rfl)|(rw [Qc];simp only [LL];rfl)
 ·skip
  injection H with H;subst H
  try simp only [TN,simprocAttr, *, QE.c0]
  try rfl
end Go.Proofs.YtallpjhkmcgpoaaGreat.P
end
section
namespace Go.Proofs.YtallpjhkmcgpoaaGreat.P
open Go Go.RowKit Go.Proofs.YtallpjhkmcgpoaaGreat.V
def Qal.f (k:Nat) (l0:List S38) (a1:Int):Option Bool:=(QE.f k l0).bind fun t1=>(if t1=true then ((Qaa.f a1 0 (wrap64 ((l0.length:Int)-1))).bind fun t2=>(some t2)) else (some false))
theorem Qal.link {k:Nat} {l0:List S38} {a1:Int} {r:Bool} (H:Qal.f k l0 a1=some r):Qao env 75 [.deep false true 2 (l0.map e38), .i .i64 a1]=some ([.b r],[none]):=by
 unfold Qal.f at H
 refine QM (F:=Qal.F) (tm:=Qav [(0, .slc 0 [] 0 2 0 l0.length),(1, .i .i64 a1)]) (rs:=rsL [(0,some ⟨false,2,0,(l0.map e38)⟩)]) (nx:=1) (ow:=[false]) rfl (by rfl) (by simp only [SN]) (by simp only [SN]) (by decide) ?_
 show W env Qal.B _ (Qf [.t 4] [false] _)
 unfold Qal.B
 obtain ⟨t1,e1,H⟩:=Qp H
 have e1:=QE.link e1
 try simp only [TN,simprocAttr, *]
 rcases QaN H with ⟨h2,H⟩|⟨h2,H⟩
 ·skip
  obtain ⟨t2,e3,H⟩:=Qp H
  have e3:=Qaa.link e3
  injection H with H;subst H
  try simp only [TN,simprocAttr, *]
  try rfl
 ·skip
  injection H with H;subst H
  try simp only [TN,simprocAttr, *]
  try rfl
end Go.Proofs.YtallpjhkmcgpoaaGreat.P
end
section
namespace Go.Proofs.YtallpjhkmcgpoaaGreat.P
open Go Go.RowKit Go.Proofs.YtallpjhkmcgpoaaGreat.V
def QU.l0:Nat→(List S38)→Int→Int→Option Int
 | 0,_,_,_=>none
 | k+1,l0,a1,x5=>if x5<(l0.length:Int) then (if 0≤x5 then (if 0≤a1 then (if a1<(l0.length:Int) then (if ((Qac l0 x5).f1) > ((Qac l0 a1).f1) then (QU.l0 k l0 a1 (wrap64 (x5+1))) else (some x5)) else none) else none) else none) else (some x5)
def QU.f (k:Nat) (l0:List S38) (a1:Int):Option Int:=QU.l0 k l0 a1 (wrap64 (a1+1))
def QU.P0 (k:Nat):Prop:=∀ (l0:List S38) (a1:Int) (x5:Int) (r:Int),QU.l0 k l0 a1 x5=some r→∀ st,canon 1 [0,1,5] st=⟨Qav [(0, .slc 0 [] 0 2 0 l0.length),(1, .i .i64 a1),(5, .i .i64 x5)],rsL [(0,some ⟨false,2,0,(l0.map e38)⟩)],1⟩→W env QU.c1 st (Qb 0 (Qs env QU.c0 (Qf [.t 4] [false] ([.i .i64 r],[none]))))
theorem QU.s0 (k:Nat) (ih:QU.P0 k):QU.P0 (k+1):=by
 intro l0 a1 x5 r H st hst
 rw [QU.l0] at H
 rw [Qat (show QU.c1=C.loop 1 [0,1,5] QU.d1 from rfl),hst]
 unfold QU.d1
 try simp only [TN,simprocAttr, *, QU.c0]
 rcases Qad H with ⟨h1,H⟩|⟨h1,H⟩
 ·skip
  obtain ⟨h2,h3,h4,H⟩:=i3 H
  try simp only [TN,simprocAttr, *, QU.c0]
  rcases Qad H with ⟨h5,H⟩|⟨h5,H⟩
  ·skip
   try simp only [TN,simprocAttr, *, QU.c0]
   refine ih _ _ _ _ H _ ?_
   first|(rw [Qc];done)|(rw [Qc];rfl)|(rw [Qc];simp only [LL];rfl)
  ·skip
   injection H with H;subst H
   try simp only [TN,simprocAttr, *, QU.c0]
   try rfl
 ·skip
  injection H with H;subst H
  try simp only [TN,simprocAttr, *, QU.c0]
  try rfl
theorem QU.w:∀ k,QU.P0 k:=by
 intro k
 induction k with
 | zero=>exact by intro l0 a1 x5 r H;cases (show (none:Option Int)=some r from H)
 | succ k ih=>exact QU.s0 k ih
theorem QU.link {k:Nat} {l0:List S38} {a1:Int} {r:Int} (H:QU.f k l0 a1=some r):Qao env 76 [.deep false true 2 (l0.map e38), .i .i64 a1]=some ([.i .i64 r],[none]):=by
 unfold QU.f at H
 refine QM (F:=QU.F) (tm:=Qav [(0, .slc 0 [] 0 2 0 l0.length),(1, .i .i64 a1)]) (rs:=rsL [(0,some ⟨false,2,0,(l0.map e38)⟩)]) (nx:=1) (ow:=[false]) rfl (by rfl) (by simp only [SN]) (by simp only [SN]) (by decide) ?_
 show W env QU.B _ (Qf [.t 4] [false] _)
 unfold QU.B
 try simp only [TN,simprocAttr, *, QU.c0]
 refine (QU.w k) _ _ _ _ H _ ?_
 first|(rw [Qc];done)|(rw [Qc];rfl)|(rw [Qc];simp only [LL];rfl)
end Go.Proofs.YtallpjhkmcgpoaaGreat.P
end
section
namespace Go.Proofs.YtallpjhkmcgpoaaGreat.P
open Go Go.RowKit Go.Proofs.YtallpjhkmcgpoaaGreat.V
mutual
def Qt.l0:Nat→(List S38)→(List S38)→(List S40)→(List S40)→Int→Int→Option Bool
 | 0,_,_,_,_,_,_=>none
 | k+1,l0,l1,l2,x19,x20,x21=>if x21<x20 then (if 0≤x21 then (if x21<(l2.length:Int) then ((Qal.f k l0 ((Qah l2 x21).f0)).bind fun t3=>(if t3=true then ((Qal.f k l1 ((Qah l2 x21).f1)).bind fun t4=>(if t4=true then (if x21 > 0 then (if 0≤wrap64 (x21-1) then (if wrap64 (x21-1)<(l2.length:Int) then (if ((Qah l2 x21).f0)≤((Qah l2 (wrap64 (x21-1))).f0) then (some false) else (if ((Qah l2 x21).f1)≤((Qah l2 (wrap64 (x21-1))).f1) then (some false) else (if x21≤(l2.length:Int) then ((some (l2.take (x21:Int).toNat:List S40)).bind fun y0=>(Qt.l1 k l0 l1 l2 l2 x20 x21 y0 (y0.length:Int) 0 ((Qah l2 x21).f0) ((Qah l2 x21).f1))) else none))) else none) else none) else (if x21≤(l2.length:Int) then ((some (l2.take (x21:Int).toNat:List S40)).bind fun y1=>(Qt.l1 k l0 l1 l2 l2 x20 x21 y1 (y1.length:Int) 0 ((Qah l2 x21).f0) ((Qah l2 x21).f1))) else none)) else (some false))) else (some false))) else none) else none) else (some true)
def Qt.l1:Nat→(List S38)→(List S38)→(List S40)→(List S40)→Int→Int→(List S40)→Int→Int→Int→Int→Option Bool
 | 0,_,_,_,_,_,_,_,_,_,_,_=>none
 | k+1,l0,l1,l2,x19,x20,x21,x66,x67,x68,c3_0,c3_1=>if x68<x67 then (if 0≤x68 then (if x68<(x66.length:Int) then ((QU.f k l0 ((Qah x66 x68).f0)).bind fun t5=>((QU.f k l1 ((Qah x66 x68).f1)).bind fun t6=>(if (decide (c3_0<t5))=(decide (c3_1<t6)) then (Qt.l1 k l0 l1 l2 l2 x20 x21 x66 x67 (wrap64 (x68+1)) c3_0 c3_1) else (some false)))) else none) else none) else (Qt.l0 k l0 l1 l2 l2 x20 (wrap64 (x21+1)))
end
def Qt.f (k:Nat) (l0:List S38) (l1:List S38) (l2:List S40):Option Bool:=(QE.f k l0).bind fun t1=>(if t1=true then ((QE.f k l1).bind fun t2=>(if t2=true then (Qt.l0 k l0 l1 l2 l2 (l2.length:Int) 0) else (some false))) else (some false))
def Qt.P0 (k:Nat):Prop:=∀ (l0:List S38) (l1:List S38) (l2:List S40) (x19:List S40) (x20:Int) (x21:Int) (r:Bool),l2=x19→Qt.l0 k l0 l1 l2 x19 x20 x21=some r→∀ st,canon 3 [0,1,2,19,20,21] st=⟨Qav [(0, .slc 0 [] 0 2 0 l0.length),(1, .slc 1 [] 0 2 0 l1.length),(2, .slc 2 [] 0 2 0 l2.length),(19, .slc 2 [] 0 2 0 l2.length),(20, .i .i64 x20),(21, .i .i64 x21)],rsL [(0,some ⟨false,2,0,(l0.map e38)⟩),(1,some ⟨false,2,0,(l1.map e38)⟩),(2,some ⟨false,2,0,(l2.map e40)⟩)],3⟩→W env Qt.c1 st (Qb 0 (Qs env Qt.c0 (Qf [.t 6] [false,false,false] ([.b r],[none,none,none]))))
def Qt.P1 (k:Nat):Prop:=∀ (l0:List S38) (l1:List S38) (l2:List S40) (x19:List S40) (x20:Int) (x21:Int) (x66:List S40) (x67:Int) (x68:Int) (c3_0:Int) (c3_1:Int) (ox66:Nat) (r:Bool),l2=x19→(List.drop ox66 l2).take (List.length x66)=x66→Qt.l1 k l0 l1 l2 x19 x20 x21 x66 x67 x68 c3_0 c3_1=some r→∀ st,canon 3 [0,1,2,8,19,20,21,66,67,68] st=⟨Qav [(0, .slc 0 [] 0 2 0 l0.length),(1, .slc 1 [] 0 2 0 l1.length),(2, .slc 2 [] 0 2 0 l2.length),(8, .ptr 3 [] 0 0 0),(19, .slc 2 [] 0 2 0 l2.length),(20, .i .i64 x20),(21, .i .i64 x21),(66, .slc 2 [] 0 2 ox66 x66.length),(67, .i .i64 x67),(68, .i .i64 x68)],rsL [(0,some ⟨false,2,0,(l0.map e38)⟩),(1,some ⟨false,2,0,(l1.map e38)⟩),(2,some ⟨false,2,0,(l2.map e40)⟩),(3,some ⟨true,2,0,[[.i .i64 c3_0, .i .i64 c3_1]]⟩)],4⟩→W env Qt.c3 st (Qb 2 (Qb 1 (Qs env Qt.c2 (Ql env Qt.c1 (Qb 0 (Qs env Qt.c0 (Qf [.t 6] [false,false,false] ([.b r],[none,none,none]))))))))
theorem Qt.s0 (k:Nat) (ih:Qt.P0 k∧Qt.P1 k):Qt.P0 (k+1):=by
 intro l0 l1 l2 x19 x20 x21 r a0 H st hst
 subst a0
 rw [Qt.l0] at H
 rw [Qat (show Qt.c1=C.loop 3 [0,1,2,19,20,21] Qt.d1 from rfl),hst]
 unfold Qt.d1
 try simp only [TN,simprocAttr, *, Qt.c0,Qt.c2]
 rcases Qad H with ⟨h1,H⟩|⟨h1,H⟩
 ·skip
  obtain ⟨h2,h3,H⟩:=i2 H
  obtain ⟨t3,e4,H⟩:=Qp H
  have e4:=Qal.link e4
  try simp only [TN,simprocAttr, *, Qt.c0,Qt.c2]
  rcases QaN H with ⟨h5,H⟩|⟨h5,H⟩
  ·skip
   obtain ⟨t4,e6,H⟩:=Qp H
   have e6:=Qal.link e6
   try simp only [TN,simprocAttr, *, Qt.c0,Qt.c2]
   rcases QaN H with ⟨h7,H⟩|⟨h7,H⟩
   ·skip
    try simp only [TN,simprocAttr, *, Qt.c0,Qt.c2]
    rcases Qad H with ⟨h8,H⟩|⟨h8,H⟩
    ·skip
     obtain ⟨h9,h10,H⟩:=i2 H
     try simp only [TN,simprocAttr, *, Qt.c0,Qt.c2]
     rcases Qad H with ⟨h11,H⟩|⟨h11,H⟩
     ·skip
      injection H with H;subst H
      try simp only [TN,simprocAttr, *, Qt.c0,Qt.c2]
      try rfl
     ·skip
      try simp only [TN,simprocAttr, *, Qt.c0,Qt.c2]
      rcases Qad H with ⟨h12,H⟩|⟨h12,H⟩
      ·skip
       injection H with H;subst H
       try simp only [TN,simprocAttr, *, Qt.c0,Qt.c2]
       try rfl
      ·skip
       obtain ⟨h13,H⟩:=i1 H
       obtain ⟨y0,hy0,H⟩:=Qci H
       have h14:(x21:Int).toNat=List.length y0:=by rw [←hy0];simp only [List.length_drop,List.length_take] <;> omega
       have cw14:(List.drop (0) l2).take (List.length y0)=y0:=by rw [←h14,List.drop_zero];exact hy0
       have g14:∀ {j:Int}, 0≤j→j<(List.length y0:Int)→(l2.map e40)[0+j.toNat]? = some (e40 (Qah y0 j)):=fun h1 h2=>Qf0 cw14 h1 h2
       have w14:=QcT (e:=e40) cw14
       have z14:0≤x21→x21<(List.length l2:Int)→(l2.map e40)[0+List.length y0]? = some (e40 (Qah l2 x21)):=fun h1 h2=>by rw [←h14];exact Qb1 h1 h2
       try simp only [TN,simprocAttr, *, Qt.c0,Qt.c2]
       refine ih.2 _ _ _ _ _ _ _ _ _ _ _ (0) _ rfl (by assumption) H _ ?_
       first|(rw [Qc];done)|(rw [Qc];rfl)|(rw [Qc];simp only [LL];rfl)
    ·skip
     obtain ⟨h15,H⟩:=i1 H
     obtain ⟨y1,hy1,H⟩:=Qci H
     have h16:(x21:Int).toNat=List.length y1:=by rw [←hy1];simp only [List.length_drop,List.length_take] <;> omega
     have cw16:(List.drop (0) l2).take (List.length y1)=y1:=by rw [←h16,List.drop_zero];exact hy1
     have g16:∀ {j:Int}, 0≤j→j<(List.length y1:Int)→(l2.map e40)[0+j.toNat]? = some (e40 (Qah y1 j)):=fun h1 h2=>Qf0 cw16 h1 h2
     have w16:=QcT (e:=e40) cw16
     have z16:0≤x21→x21<(List.length l2:Int)→(l2.map e40)[0+List.length y1]? = some (e40 (Qah l2 x21)):=fun h1 h2=>by rw [←h16];exact Qb1 h1 h2
     try simp only [TN,simprocAttr, *, Qt.c0,Qt.c2]
     refine ih.2 _ _ _ _ _ _ _ _ _ _ _ (0) _ rfl (by assumption) H _ ?_
     first|(rw [Qc];done)|(rw [Qc];rfl)|(rw [Qc];simp only [LL];rfl)
   ·skip
    injection H with H;subst H
    try simp only [TN,simprocAttr, *, Qt.c0,Qt.c2]
    try rfl
  ·skip
   injection H with H;subst H
   try simp only [TN,simprocAttr, *, Qt.c0,Qt.c2]
   try rfl
 ·skip
  injection H with H;subst H
  try simp only [TN,simprocAttr, *, Qt.c0,Qt.c2]
  try rfl
theorem Qt.s1 (k:Nat) (ih:Qt.P0 k∧Qt.P1 k):Qt.P1 (k+1):=by
 intro l0 l1 l2 x19 x20 x21 x66 x67 x68 c3_0 c3_1 ox66 r a0 v0 H st hst
 subst a0
 have vg0:∀ {j:Int}, 0≤j→j<(List.length x66:Int)→(l2.map e40)[ox66+j.toNat]? = some (e40 (Qah x66 j)):=fun h1 h2=>Qf0 v0 h1 h2
 have vw0:=QcT (e:=e40) v0
 rw [Qt.l1] at H
 rw [Qat (show Qt.c3=C.loop 3 [0,1,2,8,19,20,21,66,67,68] Qt.d3 from rfl),hst]
 unfold Qt.d3
 try simp only [TN,simprocAttr, *, Qt.c0,Qt.c2]
 rcases Qad H with ⟨h1,H⟩|⟨h1,H⟩
 ·skip
  obtain ⟨h2,h3,H⟩:=i2 H
  obtain ⟨t5,e4,H⟩:=Qp H
  have e4:=QU.link e4
  obtain ⟨t6,e5,H⟩:=Qp H
  have e5:=QU.link e5
  try simp only [TN,simprocAttr, *, Qt.c0,Qt.c2]
  rcases ioq H with ⟨h6,H⟩|⟨h6,H⟩
  ·skip
   try simp only [TN,simprocAttr, *, Qt.c0,Qt.c2]
   refine ih.2 _ _ _ _ _ _ _ _ _ _ _ (ox66) _ rfl (by assumption) H _ ?_
   first|(rw [Qc];done)|(rw [Qc];rfl)|(rw [Qc];simp only [LL];rfl)
  ·skip
   injection H with H;subst H
   try simp only [TN,simprocAttr, *, Qt.c0,Qt.c2]
   try rfl
 ·skip
  try simp only [TN,simprocAttr, *, Qt.c0,Qt.c2]
  refine ih.1 _ _ _ _ _ _ _ rfl H _ ?_
  first|(rw [Qc];done)|(rw [Qc];rfl)|(rw [Qc];simp only [LL];rfl)
theorem Qt.w:∀ k,Qt.P0 k∧Qt.P1 k:=by
 intro k
 induction k with
 | zero=>exact ⟨(by intro l0 l1 l2 x19 x20 x21 r _ H;cases (show (none:Option Bool)=some r from H)),(by intro l0 l1 l2 x19 x20 x21 x66 x67 x68 c3_0 c3_1 _ r _ _ H;cases (show (none:Option Bool)=some r from H))⟩
 | succ k ih=>exact ⟨(Qt.s0 k ih),(Qt.s1 k ih)⟩
theorem Qt.link {k:Nat} {l0:List S38} {l1:List S38} {l2:List S40} {r:Bool} (H:Qt.f k l0 l1 l2=some r):Qao env 31 [.deep false true 2 (l0.map e38), .deep false true 2 (l1.map e38), .deep false true 2 (l2.map e40)]=some ([.b r],[none,none,none]):=by
 unfold Qt.f at H
 refine QM (F:=Qt.F) (tm:=Qav [(0, .slc 0 [] 0 2 0 l0.length),(1, .slc 1 [] 0 2 0 l1.length),(2, .slc 2 [] 0 2 0 l2.length)]) (rs:=rsL [(0,some ⟨false,2,0,(l0.map e38)⟩),(1,some ⟨false,2,0,(l1.map e38)⟩),(2,some ⟨false,2,0,(l2.map e40)⟩)]) (nx:=3) (ow:=[false,false,false]) rfl (by rfl) (by simp only [SN]) (by simp only [SN]) (by decide) ?_
 show W env Qt.B _ (Qf [.t 6] [false,false,false] _)
 unfold Qt.B
 obtain ⟨t1,e1,H⟩:=Qp H
 have e1:=QE.link e1
 try simp only [TN,simprocAttr, *, Qt.c0,Qt.c2]
 rcases QaN H with ⟨h2,H⟩|⟨h2,H⟩
 ·skip
  obtain ⟨t2,e3,H⟩:=Qp H
  have e3:=QE.link e3
  try simp only [TN,simprocAttr, *, Qt.c0,Qt.c2]
  rcases QaN H with ⟨h4,H⟩|⟨h4,H⟩
  ·skip
   try simp only [TN,simprocAttr, *, Qt.c0,Qt.c2]
   refine (Qt.w k).1 _ _ _ _ _ _ _ rfl H _ ?_
   first|(rw [Qc];done)|(rw [Qc];rfl)|(rw [Qc];simp only [LL];rfl)
  ·skip
   injection H with H;subst H
   try simp only [TN,simprocAttr, *, Qt.c0,Qt.c2]
   try rfl
 ·skip
  injection H with H;subst H
  try simp only [TN,simprocAttr, *, Qt.c0,Qt.c2]
  try rfl
end Go.Proofs.YtallpjhkmcgpoaaGreat.P
end
section
namespace Go.Proofs.YtallpjhkmcgpoaaGreat.P
open Go Go.RowKit Go.Proofs.YtallpjhkmcgpoaaGreat.V
def QaE.f (l0:List S40):Option Bool:=if (l0.length:Int) > 0 then (if 0<(l0.length:Int) then (some (decide ((Qah l0 0).f0=0) && decide ((Qah l0 0).f1=0))) else none) else (some false)
theorem QaE.link {l0:List S40} {r:Bool} (H:QaE.f l0=some r):Qao env 32 [.deep false true 2 (l0.map e40)]=some ([.b r],[none]):=by
 unfold QaE.f at H
 refine QM (F:=QaE.F) (tm:=Qav [(0, .slc 0 [] 0 2 0 l0.length)]) (rs:=rsL [(0,some ⟨false,2,0,(l0.map e40)⟩)]) (nx:=1) (ow:=[false]) rfl (by rfl) (by simp only [SN]) (by simp only [SN]) (by decide) ?_
 show W env QaE.B _ (Qf [.t 2] [false] _)
 unfold QaE.B
 try simp only [TN,simprocAttr, *]
 rcases Qad H with ⟨h1,H⟩|⟨h1,H⟩
 ·skip
  obtain ⟨h2,H⟩:=i1 H
  injection H with H;subst H
  try simp only [TN,simprocAttr, *]
  try rfl
 ·skip
  injection H with H;subst H
  try simp only [TN,simprocAttr, *]
  try rfl
end Go.Proofs.YtallpjhkmcgpoaaGreat.P
end
section
namespace Go.Proofs.YtallpjhkmcgpoaaGreat.P
open Go Go.RowKit Go.Proofs.YtallpjhkmcgpoaaGreat.V
def Qz.f (l0:List S38):Option (List S38):=if l0.length * 16≤140737488355328 then some l0 else none
theorem Qz.link {l0:List S38} {r:List S38} (H:Qz.f l0=some r):Qao env 33 [.deep false true 2 (l0.map e38)]=some ([.deep false false 2 (r.map e38)],[none]):=by
 unfold Qz.f at H
 obtain ⟨h,H⟩:=Qco H
 injection H with H;subst H
 refine QM (F:=Qz.F) (tm:=Qav [(0, .slc 0 [] 0 2 0 l0.length)]) (rs:=rsL [(0,some ⟨false,2,0,(l0.map e38)⟩)]) (nx:=1) (ow:=[false]) rfl (by rfl) (by simp only [SN]) (by simp only [SN]) (by decide) ?_
 show W env Qz.B _ (Qf [.t 2] [false] _)
 unfold Qz.B
 by_cases hz:l0=[]
 ·subst hz
  have hn:QiZ 0 = .mb:=rfl
  try simp only [TN,simprocAttr,List.length_nil,List.map_nil,hn]
  try exact ⟨rfl,rfl⟩
 ·have hn:QiZ l0.length = .b false:=by
   cases l0 with
   | nil=>exact absurd rfl hz
   | cons x l=>rfl
  try simp only [TN,simprocAttr,h,hn]
  try rfl
end Go.Proofs.YtallpjhkmcgpoaaGreat.P
end
section
namespace Go.Proofs.YtallpjhkmcgpoaaGreat.P
open Go Go.RowKit Go.Proofs.YtallpjhkmcgpoaaGreat.V
def Qq.l0:Nat→(List Int)→Int→Int→Int→Option Int
 | 0,_,_,_,_=>none
 | k+1,l0,a1,x7,x8=>if x8<x7 then (if 0≤x8 then (if x8<(l0.length:Int) then (if a1=(rd l0 x8) then (some x8) else (Qq.l0 k l0 a1 x7 (wrap64 (x8+1)))) else none) else none) else (some (-1))
def Qq.f (k:Nat) (l0:List Int) (a1:Int):Option Int:=Qq.l0 k l0 a1 (l0.length:Int) 0
def Qq.P0 (k:Nat):Prop:=∀ (l0:List Int) (a1:Int) (x7:Int) (x8:Int) (r:Int),Qq.l0 k l0 a1 x7 x8=some r→∀ st,canon 1 [0,1,7,8] st=⟨Qav [(0, .slc 0 [] 0 1 0 l0.length),(1, .i .i64 a1),(7, .i .i64 x7),(8, .i .i64 x8)],rsL [(0,some ⟨false,1,0,(l0.map eI)⟩)],1⟩→W env Qq.c1 st (Qb 0 (Qs env Qq.c0 (Qf [.t 4] [false] ([.i .i64 r],[none]))))
theorem Qq.s0 (k:Nat) (ih:Qq.P0 k):Qq.P0 (k+1):=by
 intro l0 a1 x7 x8 r H st hst
 rw [Qq.l0] at H
 rw [Qat (show Qq.c1=C.loop 1 [0,1,7,8] Qq.d1 from rfl),hst]
 unfold Qq.d1
 try simp only [TN,simprocAttr, *, Qq.c0]
 rcases Qad H with ⟨h1,H⟩|⟨h1,H⟩
 ·skip
  obtain ⟨h2,h3,H⟩:=i2 H
  try simp only [TN,simprocAttr, *, Qq.c0]
  rcases ioq H with ⟨h4,H⟩|⟨h4,H⟩
  ·skip
   injection H with H;subst H
   try simp only [TN,simprocAttr, *, Qq.c0]
   try rfl
  ·skip
   try simp only [TN,simprocAttr, *, Qq.c0]
   refine ih _ _ _ _ _ H _ ?_
   first|(rw [Qc];done)|(rw [Qc];rfl)|(rw [Qc];simp only [LL];rfl)
 ·skip
  injection H with H;subst H
  try simp only [TN,simprocAttr, *, Qq.c0]
  try rfl
theorem Qq.w:∀ k,Qq.P0 k:=by
 intro k
 induction k with
 | zero=>exact by intro l0 a1 x7 x8 r H;cases (show (none:Option Int)=some r from H)
 | succ k ih=>exact Qq.s0 k ih
theorem Qq.link {k:Nat} {l0:List Int} {a1:Int} {r:Int} (H:Qq.f k l0 a1=some r):Qao env 41 [.deep false true 1 (l0.map eI), .i .i64 a1]=some ([.i .i64 r],[none]):=by
 unfold Qq.f at H
 refine QM (F:=Qq.F) (tm:=Qav [(0, .slc 0 [] 0 1 0 l0.length),(1, .i .i64 a1)]) (rs:=rsL [(0,some ⟨false,1,0,(l0.map eI)⟩)]) (nx:=1) (ow:=[false]) rfl (by rfl) (by simp only [SN]) (by simp only [SN]) (by decide) ?_
 show W env Qq.B _ (Qf [.t 4] [false] _)
 unfold Qq.B
 try simp only [TN,simprocAttr, *, Qq.c0]
 refine (Qq.w k) _ _ _ _ _ H _ ?_
 first|(rw [Qc];done)|(rw [Qc];rfl)|(rw [Qc];simp only [LL];rfl)
end Go.Proofs.YtallpjhkmcgpoaaGreat.P
end
section
namespace Go.Proofs.YtallpjhkmcgpoaaGreat.P
open Go Go.RowKit Go.Proofs.YtallpjhkmcgpoaaGreat.V
def QS.l0:Nat→(List S38)→Int→(List Int)→Int→Option (List Int)
 | 0,_,_,_,_=>none
 | k+1,l0,a1,x5,x6=>(QU.f k l0 a1).bind fun t2=>(if x6<t2 then (if 0≤x6 then (if x6<(l0.length:Int) then (if 0≤a1 then (if a1<(l0.length:Int) then (if ((Qac l0 x6).f1)=(wrap64 (((Qac l0 a1).f1)+1)) then (if x5.length<17592186044416 then (QS.l0 k l0 a1 (x5++([x6])) (wrap64 (x6+1))) else none) else (QS.l0 k l0 a1 x5 (wrap64 (x6+1)))) else none) else none) else none) else none) else (some x5))
def QS.f (k:Nat) (l0:List S38) (a1:Int):Option (List Int):=(Qal.f k l0 a1).bind fun t1=>(if t1=true then (QS.l0 k l0 a1 ([]:List Int) (wrap64 (a1+1))) else (some ([]:List Int)))
def QS.P0 (k:Nat):Prop:=∀ (l0:List S38) (a1:Int) (x5:List Int) (x6:Int) (r:(List Int)),QS.l0 k l0 a1 x5 x6=some r→∀ st,canon 1 [0,1,5,6] st=⟨Qav [(0, .slc 0 [] 0 2 0 l0.length),(1, .i .i64 a1),(5, .slc 1 [] 0 1 0 x5.length),(6, .i .i64 x6)],rsL [(0,some ⟨false,2,0,(l0.map e38)⟩),(1,some ⟨true,1,0,(x5.map eI)⟩)],2⟩→W env QS.c1 st (Qb 0 (Qs env QS.c0 (Qf [.t 4] [false] ([.deep false false 1 (r.map eI)],[none]))))
theorem QS.s0 (k:Nat) (ih:QS.P0 k):QS.P0 (k+1):=by
 intro l0 a1 x5 x6 r H st hst
 rw [QS.l0] at H
 rw [Qat (show QS.c1=C.loop 1 [0,1,5,6] QS.d1 from rfl),hst]
 unfold QS.d1
 obtain ⟨t2,e1,H⟩:=Qp H
 have e1:=QU.link e1
 try simp only [TN,simprocAttr, *, QS.c0]
 rcases Qad H with ⟨h2,H⟩|⟨h2,H⟩
 ·skip
  obtain ⟨h3,h4,h5,h6,H⟩:=i4 H
  try simp only [TN,simprocAttr, *, QS.c0]
  rcases ioq H with ⟨h7,H⟩|⟨h7,H⟩
  ·skip
   obtain ⟨h8,H⟩:=i1 H
   have h9:(x5.length+1) * 8≤140737488355328:=by omega
   try simp only [TN,simprocAttr, *, QS.c0]
   refine ih _ _ _ _ _ H _ ?_
   first|(rw [Qc];done)|(rw [Qc];rfl)|(rw [Qc];simp only [LL];rfl)
  ·skip
   try simp only [TN,simprocAttr, *, QS.c0]
   refine ih _ _ _ _ _ H _ ?_
   first|(rw [Qc];done)|(rw [Qc];rfl)|(rw [Qc];simp only [LL];rfl)
 ·skip
  injection H with H;subst H
  try simp only [TN,simprocAttr, *, QS.c0]
  try rfl
theorem QS.w:∀ k,QS.P0 k:=by
 intro k
 induction k with
 | zero=>exact by intro l0 a1 x5 x6 r H;cases (show (none:Option (List Int))=some r from H)
 | succ k ih=>exact QS.s0 k ih
theorem QS.link {k:Nat} {l0:List S38} {a1:Int} {r:(List Int)} (H:QS.f k l0 a1=some r):Qao env 40 [.deep false true 2 (l0.map e38), .i .i64 a1]=some ([.deep false false 1 (r.map eI)],[none]):=by
 unfold QS.f at H
 refine QM (F:=QS.F) (tm:=Qav [(0, .slc 0 [] 0 2 0 l0.length),(1, .i .i64 a1)]) (rs:=rsL [(0,some ⟨false,2,0,(l0.map e38)⟩)]) (nx:=1) (ow:=[false]) rfl (by rfl) (by simp only [SN]) (by simp only [SN]) (by decide) ?_
 show W env QS.B _ (Qf [.t 4] [false] _)
 unfold QS.B
 obtain ⟨t1,e1,H⟩:=Qp H
 have e1:=Qal.link e1
 try simp only [TN,simprocAttr, *, QS.c0]
 rcases QaN H with ⟨h2,H⟩|⟨h2,H⟩
 ·skip
  try simp only [TN,simprocAttr, *, QS.c0]
  refine (QS.w k) _ _ _ _ _ H _ ?_
  first|(rw [Qc];done)|(rw [Qc];rfl)|(rw [Qc];simp only [LL];rfl)
 ·skip
  injection H with H;subst H
  try simp only [TN,simprocAttr, *, QS.c0]
  try rfl
end Go.Proofs.YtallpjhkmcgpoaaGreat.P
end
section
namespace Go.Proofs.YtallpjhkmcgpoaaGreat.P
open Go Go.RowKit Go.Proofs.YtallpjhkmcgpoaaGreat.V
def QY.l0:Nat→(List S38)→Int→(List Int)→Int→Int→Option Int
 | 0,_,_,_,_,_=>none
 | k+1,l0,x5,l1,x13,x14=>if x14<x13 then (if 0≤x14 then (if x14<(l1.length:Int) then ((QS.f k l0 x5).bind fun t2=>((Qaa.f (rd l1 x14) 0 (wrap64 ((t2.length:Int)-1))).bind fun t3=>(if t3=true then (if 0≤rd l1 x14 then (if rd l1 x14<(t2.length:Int) then (QY.l0 k l0 (rd t2 (rd l1 x14)) l1 x13 (wrap64 (x14+1))) else none) else none) else (some (-1))))) else none) else none) else (some x5)
def QY.f (k:Nat) (l0:List S38) (l1:List Int):Option Int:=(QE.f k l0).bind fun t1=>(if t1=true then (QY.l0 k l0 0 l1 (l1.length:Int) 0) else (some (-1)))
def QY.P0 (k:Nat):Prop:=∀ (l0:List S38) (x5:Int) (l1:List Int) (x13:Int) (x14:Int) (r:Int),QY.l0 k l0 x5 l1 x13 x14=some r→∀ st,canon 2 [0,5,12,13,14] st=⟨Qav [(0, .slc 0 [] 0 2 0 l0.length),(5, .i .i64 x5),(12, .slc 1 [] 0 1 0 l1.length),(13, .i .i64 x13),(14, .i .i64 x14)],rsL [(0,some ⟨false,2,0,(l0.map e38)⟩),(1,some ⟨false,1,0,(l1.map eI)⟩)],2⟩→W env QY.c1 st (Qb 0 (Qs env QY.c0 (Qf [.t 4] [false,false] ([.i .i64 r],[none,none]))))
theorem QY.s0 (k:Nat) (ih:QY.P0 k):QY.P0 (k+1):=by
 intro l0 x5 l1 x13 x14 r H st hst
 rw [QY.l0] at H
 rw [Qat (show QY.c1=C.loop 2 [0,5,12,13,14] QY.d1 from rfl),hst]
 unfold QY.d1
 try simp only [TN,simprocAttr, *, QY.c0]
 rcases Qad H with ⟨h1,H⟩|⟨h1,H⟩
 ·skip
  obtain ⟨h2,h3,H⟩:=i2 H
  obtain ⟨t2,e4,H⟩:=Qp H
  have e4:=QS.link e4
  obtain ⟨t3,e5,H⟩:=Qp H
  have e5:=Qaa.link e5
  try simp only [TN,simprocAttr, *, QY.c0]
  rcases QaN H with ⟨h6,H⟩|⟨h6,H⟩
  ·skip
   obtain ⟨h7,h8,H⟩:=i2 H
   try simp only [TN,simprocAttr, *, QY.c0]
   refine ih _ _ _ _ _ _ H _ ?_
   first|(rw [Qc];done)|(rw [Qc];rfl)|(rw [Qc];simp only [LL];rfl)
  ·skip
   injection H with H;subst H
   try simp only [TN,simprocAttr, *, QY.c0]
   try rfl
 ·skip
  injection H with H;subst H
  try simp only [TN,simprocAttr, *, QY.c0]
  try rfl
theorem QY.w:∀ k,QY.P0 k:=by
 intro k
 induction k with
 | zero=>exact by intro l0 x5 l1 x13 x14 r H;cases (show (none:Option Int)=some r from H)
 | succ k ih=>exact QY.s0 k ih
theorem QY.link {k:Nat} {l0:List S38} {l1:List Int} {r:Int} (H:QY.f k l0 l1=some r):Qao env 51 [.deep false true 2 (l0.map e38), .deep false true 1 (l1.map eI)]=some ([.i .i64 r],[none,none]):=by
 unfold QY.f at H
 refine QM (F:=QY.F) (tm:=Qav [(0, .slc 0 [] 0 2 0 l0.length),(1, .slc 1 [] 0 1 0 l1.length)]) (rs:=rsL [(0,some ⟨false,2,0,(l0.map e38)⟩),(1,some ⟨false,1,0,(l1.map eI)⟩)]) (nx:=2) (ow:=[false,false]) rfl (by rfl) (by simp only [SN]) (by simp only [SN]) (by decide) ?_
 show W env QY.B _ (Qf [.t 4] [false,false] _)
 unfold QY.B
 obtain ⟨t1,e1,H⟩:=Qp H
 have e1:=QE.link e1
 try simp only [TN,simprocAttr, *, QY.c0]
 rcases QaN H with ⟨h2,H⟩|⟨h2,H⟩
 ·skip
  try simp only [TN,simprocAttr, *, QY.c0]
  refine (QY.w k) _ _ _ _ _ _ H _ ?_
  first|(rw [Qc];done)|(rw [Qc];rfl)|(rw [Qc];simp only [LL];rfl)
 ·skip
  injection H with H;subst H
  try simp only [TN,simprocAttr, *, QY.c0]
  try rfl
end Go.Proofs.YtallpjhkmcgpoaaGreat.P
end
section
namespace Go.Proofs.YtallpjhkmcgpoaaGreat.P
open Go Go.RowKit Go.Proofs.YtallpjhkmcgpoaaGreat.V
def QA.l0:Nat→(List S38)→Int→Int→Int→(List S38)→Int→Int→(List Int)→Option (Int×Int×Int)
 | 0,_,_,_,_,_,_,_,_=>none
 | k+1,l0,x7,x8,x11,x92,x93,x94,l1_1=>if x94<x93 then (if 0≤x94 then (if x94<(x92.length:Int) then (QA.l0 k l0 x7 x8 (mx x11 (wrap64 (((Qac x92 x94).f1)+1))) x92 x93 (wrap64 (x94+1)) l1_1) else none) else none) else (if (l0.length:Int)=24 then (some (6,0,0)) else (if x11 > 12 then (some (7,0,0)) else (some (0,x7,x8))))
def QA.f (k:Nat) (l0:List S38) (a1_0:Int) (l1_1:List Int) (a1_2:Int) (a1_3:Int) (a1_4:Int) (a2:Int):Option (Int×Int×Int):=(Qaa.f a1_0 1 3).bind fun t1=>(if t1=true then (if a2<0 then (some (2,0,0)) else (if a1_0=2 then (if a2=0 then (some (4,0,0)) else (if a1_0=3 then ((QS.f k l0 a2).bind fun t2=>((Qaa.f a1_3 0 (t2.length:Int)).bind fun t3=>(if t3=true then ((Qaa.f a1_4 0 (wrap64 ((t2.length:Int)-a1_3))).bind fun t4=>(if t4=true then ((QU.f k l0 a2).bind fun t5=>(if t2.length<17592186044416 then ((some (t2++([t5]):List Int)).bind fun y0=>(if 0≤a1_3 then (if a1_3<(y0.length:Int) then (if 0≤wrap64 (a1_3+a1_4) then (if wrap64 (a1_3+a1_4)<(y0.length:Int) then (if 0≤a2 then (if a2<(l0.length:Int) then (if rd y0 (wrap64 (a1_3+a1_4))≤(l0.length:Int) then (if 0≤rd y0 a1_3 then (if rd y0 a1_3≤rd y0 (wrap64 (a1_3+a1_4)) then ((some ((l0.take (rd y0 (wrap64 (a1_3+a1_4)):Int).toNat).drop (rd y0 a1_3:Int).toNat:List S38)).bind fun y1=>(QA.l0 k l0 (rd y0 a1_3) (rd y0 (wrap64 (a1_3+a1_4))) (wrap64 (((Qac l0 a2).f1)+1)) y1 (y1.length:Int) 0 l1_1)) else none) else none) else none) else none) else none) else none) else none) else none) else none)) else none)) else (some (5,0,0)))) else (some (5,0,0))))) else (some (0,0,0)))) else ((Qar.f a1_2).bind fun t6=>(if t6=true then (if a1_0=3 then ((QS.f k l0 a2).bind fun t7=>((Qaa.f a1_3 0 (t7.length:Int)).bind fun t8=>(if t8=true then ((Qaa.f a1_4 0 (wrap64 ((t7.length:Int)-a1_3))).bind fun t9=>(if t9=true then ((QU.f k l0 a2).bind fun t10=>(if t7.length<17592186044416 then ((some (t7++([t10]):List Int)).bind fun y2=>(if 0≤a1_3 then (if a1_3<(y2.length:Int) then (if 0≤wrap64 (a1_3+a1_4) then (if wrap64 (a1_3+a1_4)<(y2.length:Int) then (if 0≤a2 then (if a2<(l0.length:Int) then (if rd y2 (wrap64 (a1_3+a1_4))≤(l0.length:Int) then (if 0≤rd y2 a1_3 then (if rd y2 a1_3≤rd y2 (wrap64 (a1_3+a1_4)) then ((some ((l0.take (rd y2 (wrap64 (a1_3+a1_4)):Int).toNat).drop (rd y2 a1_3:Int).toNat:List S38)).bind fun y3=>(QA.l0 k l0 (rd y2 a1_3) (rd y2 (wrap64 (a1_3+a1_4))) (wrap64 (((Qac l0 a2).f1)+1)) y3 (y3.length:Int) 0 l1_1)) else none) else none) else none) else none) else none) else none) else none) else none) else none)) else none)) else (some (5,0,0)))) else (some (5,0,0))))) else (some (0,0,0))) else (some (3,0,0)))))) else (some (1,0,0)))
def QA.P0 (k:Nat):Prop:=∀ (l0:List S38) (x7:Int) (x8:Int) (x11:Int) (x92:List S38) (x93:Int) (x94:Int) (l1_1:List Int) (ox92:Nat) (r:Int×Int×Int),(List.drop ox92 l0).take (List.length x92)=x92→QA.l0 k l0 x7 x8 x11 x92 x93 x94 l1_1=some r→∀ st,canon 2 [0,7,8,11,92,93,94] st=⟨Qav [(0, .slc 0 [] 0 2 0 l0.length),(7, .i .i64 x7),(8, .i .i64 x8),(11, .i .i64 x11),(92, .slc 0 [] 0 2 ox92 x92.length),(93, .i .i64 x93),(94, .i .i64 x94)],rsL [(0,some ⟨false,2,0,(l0.map e38)⟩),(1,some ⟨false,1,0,(l1_1.map eI)⟩)],2⟩→W env QA.c1 st (Qb 1 (Qs env QA.c0 (Qf [.t 6, .t 7, .t 8] [false,false] ([.i .i64 r.1, .i .i64 r.2.1, .i .i64 r.2.2],[none,none]))))
theorem QA.s0 (k:Nat) (ih:QA.P0 k):QA.P0 (k+1):=by
 intro l0 x7 x8 x11 x92 x93 x94 l1_1 ox92 r v0 H st hst
 have vg0:∀ {j:Int}, 0≤j→j<(List.length x92:Int)→(l0.map e38)[ox92+j.toNat]? = some (e38 (Qac x92 j)):=fun h1 h2=>Qf0 v0 h1 h2
 have vw0:=QcT (e:=e38) v0
 rw [QA.l0] at H
 rw [Qat (show QA.c1=C.loop 2 [0,7,8,11,92,93,94] QA.d1 from rfl),hst]
 unfold QA.d1
 try simp only [TN,simprocAttr, *, QA.c0]
 rcases Qad H with ⟨h1,H⟩|⟨h1,H⟩
 ·skip
  obtain ⟨h2,h3,H⟩:=i2 H
  try simp only [TN,simprocAttr, *, QA.c0]
  refine ih _ _ _ _ _ _ _ _ (ox92) _ (by assumption) H _ ?_
  first|(rw [Qc];done)|(rw [Qc];rfl)|(rw [Qc];simp only [LL];rfl)
 ·skip
  try simp only [TN,simprocAttr, *, QA.c0]
  rcases ioq H with ⟨h4,H⟩|⟨h4,H⟩
  ·skip
   injection H with H;subst H
   try simp only [TN,simprocAttr, *, QA.c0]
   try rfl
  ·skip
   try simp only [TN,simprocAttr, *, QA.c0]
   rcases Qad H with ⟨h5,H⟩|⟨h5,H⟩
   ·skip
    injection H with H;subst H
    try simp only [TN,simprocAttr, *, QA.c0]
    try rfl
   ·skip
    injection H with H;subst H
    try simp only [TN,simprocAttr, *, QA.c0]
    try rfl
theorem QA.w:∀ k,QA.P0 k:=by
 intro k
 induction k with
 | zero=>exact by intro l0 x7 x8 x11 x92 x93 x94 l1_1 _ r _ H;cases (show (none:Option (Int×Int×Int))=some r from H)
 | succ k ih=>exact QA.s0 k ih
theorem QA.link {k:Nat} {l0:List S38} {a1_0:Int} {l1_1:List Int} {a1_2:Int} {a1_3:Int} {a1_4:Int} {a2:Int} {r:Int×Int×Int} (H:QA.f k l0 a1_0 l1_1 a1_2 a1_3 a1_4 a2=some r):Qao env 78 [.deep false true 2 (l0.map e38), .agg [.i .i64 a1_0, .deep false true 1 (l1_1.map eI), .i .i64 a1_2, .i .i64 a1_3, .i .i64 a1_4], .i .i64 a2]=some ([.i .i64 r.1, .i .i64 r.2.1, .i .i64 r.2.2],[none,none]):=by
 unfold QA.f at H
 refine QM (F:=QA.F) (tm:=Qav [(0, .slc 0 [] 0 2 0 l0.length),(1, .agg [.i .i64 a1_0, .slc 1 [] 0 1 0 l1_1.length, .i .i64 a1_2, .i .i64 a1_3, .i .i64 a1_4]),(2, .i .i64 a2)]) (rs:=rsL [(0,some ⟨false,2,0,(l0.map e38)⟩),(1,some ⟨false,1,0,(l1_1.map eI)⟩)]) (nx:=2) (ow:=[false,false]) rfl (by rfl) (by simp only [SN]) (by simp only [SN]) (by decide) ?_
 show W env QA.B _ (Qf [.t 6, .t 7, .t 8] [false,false] _)
 unfold QA.B
 obtain ⟨t1,e1,H⟩:=Qp H
 have e1:=Qaa.link e1
 try simp only [TN,simprocAttr, *, QA.c0]
 rcases QaN H with ⟨h2,H⟩|⟨h2,H⟩
 ·skip
  try simp only [TN,simprocAttr, *, QA.c0]
  rcases Qad H with ⟨h3,H⟩|⟨h3,H⟩
  ·skip
   injection H with H;subst H
   try simp only [TN,simprocAttr, *, QA.c0]
   try rfl
  ·skip
   try simp only [TN,simprocAttr, *, QA.c0]
   rcases ioq H with ⟨h4,H⟩|⟨h4,H⟩
   ·skip
    try simp only [TN,simprocAttr, *, QA.c0]
    rcases ioq H with ⟨h5,H⟩|⟨h5,H⟩
    ·skip
     injection H with H;subst H
     try simp only [TN,simprocAttr, *, QA.c0]
     try rfl
    ·skip
     try simp only [TN,simprocAttr, *, QA.c0]
     rcases ioq H with ⟨h6,H⟩|⟨h6,H⟩
     ·skip
      obtain ⟨t2,e7,H⟩:=Qp H
      have e7:=QS.link e7
      obtain ⟨t3,e8,H⟩:=Qp H
      have e8:=Qaa.link e8
      try simp only [TN,simprocAttr, *, QA.c0]
      rcases QaN H with ⟨h9,H⟩|⟨h9,H⟩
      ·skip
       obtain ⟨t4,e10,H⟩:=Qp H
       have e10:=Qaa.link e10
       try simp only [TN,simprocAttr, *, QA.c0]
       rcases QaN H with ⟨h11,H⟩|⟨h11,H⟩
       ·skip
        obtain ⟨t5,e12,H⟩:=Qp H
        have e12:=QU.link e12
        obtain ⟨h13,H⟩:=i1 H
        have h14:(t2.length+1) * 8≤140737488355328:=by omega
        obtain ⟨_,hy15,H⟩:=Qci H;subst hy15
        obtain ⟨h16,h17,h18,h19,H⟩:=i4 H
        obtain ⟨h20,h21,h22,h23,H⟩:=i4 H
        obtain ⟨h24,H⟩:=i1 H
        obtain ⟨y1,hy1,H⟩:=Qci H
        have h25:(rd (t2++([t5])) (wrap64 (a1_3+a1_4)):Int).toNat-(rd (t2++([t5])) a1_3:Int).toNat=List.length y1:=by rw [←hy1];simp only [List.length_drop,List.length_take] <;> omega
        have cw25:(List.drop (0+(rd (t2++([t5])) a1_3:Int).toNat) l0).take (List.length y1)=y1:=by rw [←h25,Nat.zero_add, ←List.drop_take];exact hy1
        have g25:∀ {j:Int}, 0≤j→j<(List.length y1:Int)→(l0.map e38)[0+(rd (t2++([t5])) a1_3:Int).toNat+j.toNat]? = some (e38 (Qac y1 j)):=fun h1 h2=>Qf0 cw25 h1 h2
        have w25:=QcT (e:=e38) cw25
        try simp only [TN,simprocAttr, *, QA.c0]
        refine (QA.w k) _ _ _ _ _ _ _ _ ((0+(rd (t2++([t5])) a1_3:Int).toNat)) _ (by assumption) H _ ?_
        first|(rw [Qc];done)|(rw [Qc];rfl)|(rw [Qc];simp only [LL];rfl)
       ·skip
        injection H with H;subst H
        try simp only [TN,simprocAttr, *, QA.c0]
        try rfl
      ·skip
       injection H with H;subst H
       try simp only [TN,simprocAttr, *, QA.c0]
       try rfl
     ·skip
      injection H with H;subst H
      try simp only [TN,simprocAttr, *, QA.c0]
      try rfl
   ·skip
    obtain ⟨t6,e26,H⟩:=Qp H
    have e26:=Qar.link e26
    try simp only [TN,simprocAttr, *, QA.c0]
    rcases QaN H with ⟨h27,H⟩|⟨h27,H⟩
    ·skip
     try simp only [TN,simprocAttr, *, QA.c0]
     rcases ioq H with ⟨h28,H⟩|⟨h28,H⟩
     ·skip
      obtain ⟨t7,e29,H⟩:=Qp H
      have e29:=QS.link e29
      obtain ⟨t8,e30,H⟩:=Qp H
      have e30:=Qaa.link e30
      try simp only [TN,simprocAttr, *, QA.c0]
      rcases QaN H with ⟨h31,H⟩|⟨h31,H⟩
      ·skip
       obtain ⟨t9,e32,H⟩:=Qp H
       have e32:=Qaa.link e32
       try simp only [TN,simprocAttr, *, QA.c0]
       rcases QaN H with ⟨h33,H⟩|⟨h33,H⟩
       ·skip
        obtain ⟨t10,e34,H⟩:=Qp H
        have e34:=QU.link e34
        obtain ⟨h35,H⟩:=i1 H
        have h36:(t7.length+1) * 8≤140737488355328:=by omega
        obtain ⟨_,hy37,H⟩:=Qci H;subst hy37
        obtain ⟨h38,h39,h40,h41,H⟩:=i4 H
        obtain ⟨h42,h43,h44,h45,H⟩:=i4 H
        obtain ⟨h46,H⟩:=i1 H
        obtain ⟨y3,hy3,H⟩:=Qci H
        have h47:(rd (t7++([t10])) (wrap64 (a1_3+a1_4)):Int).toNat-(rd (t7++([t10])) a1_3:Int).toNat=List.length y3:=by rw [←hy3];simp only [List.length_drop,List.length_take] <;> omega
        have cw47:(List.drop (0+(rd (t7++([t10])) a1_3:Int).toNat) l0).take (List.length y3)=y3:=by rw [←h47,Nat.zero_add, ←List.drop_take];exact hy3
        have g47:∀ {j:Int}, 0≤j→j<(List.length y3:Int)→(l0.map e38)[0+(rd (t7++([t10])) a1_3:Int).toNat+j.toNat]? = some (e38 (Qac y3 j)):=fun h1 h2=>Qf0 cw47 h1 h2
        have w47:=QcT (e:=e38) cw47
        try simp only [TN,simprocAttr, *, QA.c0]
        refine (QA.w k) _ _ _ _ _ _ _ _ ((0+(rd (t7++([t10])) a1_3:Int).toNat)) _ (by assumption) H _ ?_
        first|(rw [Qc];done)|(rw [Qc];rfl)|(rw [Qc];simp only [LL];rfl)
       ·skip
        injection H with H;subst H
        try simp only [TN,simprocAttr, *, QA.c0]
        try rfl
      ·skip
       injection H with H;subst H
       try simp only [TN,simprocAttr, *, QA.c0]
       try rfl
     ·skip
      injection H with H;subst H
      try simp only [TN,simprocAttr, *, QA.c0]
      try rfl
    ·skip
     injection H with H;subst H
     try simp only [TN,simprocAttr, *, QA.c0]
     try rfl
 ·skip
  injection H with H;subst H
  try simp only [TN,simprocAttr, *, QA.c0]
  try rfl
end Go.Proofs.YtallpjhkmcgpoaaGreat.P
end
section
namespace Go.Proofs.YtallpjhkmcgpoaaGreat.P
open Go Go.RowKit Go.Proofs.YtallpjhkmcgpoaaGreat.V
def Qag.f (l0:List S38) (a1:Int) (a2:Int):Option (List S38):=if 0≤a1 then (if a1≤a2 then (if a2≤(l0.length:Int) then (if l0.length * 16≤140737488355328 then some (l0.take a1.toNat++l0.drop a2.toNat) else none) else none) else none) else none
theorem Qag.link {l0:List S38} {a1 a2:Int} {r:List S38} (H:Qag.f l0 a1 a2=some r):Qao env 91 [.deep false false 2 (l0.map e38), .i .i64 a1, .i .i64 a2]=some ([.deep false false 2 (r.map e38)],[none]):=by
 unfold Qag.f at H
 obtain ⟨h1,H⟩:=Qco H
 obtain ⟨h2,H⟩:=Qco H
 obtain ⟨h3,H⟩:=Qco H
 obtain ⟨h4,H⟩:=Qco H
 injection H with H;subst H
 rw [List.map_append,List.map_take,List.map_drop]
 exact Qko (zero:=[.i .i64 0, .i .i64 0]) (by':=16) rfl rfl rfl rfl QnV h1 h2 (by rw [List.length_map];exact h3) (by rw [List.length_map];exact h4)
end Go.Proofs.YtallpjhkmcgpoaaGreat.P
end
section
namespace Go.Proofs.YtallpjhkmcgpoaaGreat.P
open Go Go.RowKit Go.Proofs.YtallpjhkmcgpoaaGreat.V
def Qaf.f (l0:List S38) (a1:Int) (l2:List S38):Option (List S38):=if 0≤a1 then (if a1≤(l0.length:Int) then (if 0<l2.length then (if (l0.length+l2.length) * 16≤140737488355328 then some (l0.take a1.toNat++l2++l0.drop a1.toNat) else none) else none) else none) else none
theorem Qaf.link {l0:List S38} {a1:Int} {l2:List S38} {r:List S38} (H:Qaf.f l0 a1 l2=some r):Qao env 92 [.deep false false 2 (l0.map e38), .i .i64 a1, .deep false false 2 (l2.map e38)]=some ([.deep false false 2 (r.map e38)],[none,some (l2.map e38)]):=by
 unfold Qaf.f at H
 obtain ⟨h1,H⟩:=Qco H
 obtain ⟨h2,H⟩:=Qco H
 obtain ⟨h3,H⟩:=Qco H
 obtain ⟨h4,H⟩:=Qco H
 injection H with H;subst H
 rw [List.map_append,List.map_append,List.map_take,List.map_drop]
 exact Qj3 (zero:=[.i .i64 0, .i .i64 0]) (by':=16) (rot:=118) rfl rfl rfl rfl (by decide) QnV QnV (by rw [List.length_map];exact h3) h1 (by rw [List.length_map];exact h2) (by rw [List.length_map,List.length_map];exact h4)
end Go.Proofs.YtallpjhkmcgpoaaGreat.P
end
section
namespace Go.Proofs.YtallpjhkmcgpoaaGreat.P
open Go Go.RowKit Go.Proofs.YtallpjhkmcgpoaaGreat.V
mutual
def Qo.l0:Nat→(List S38)→(List S38)→Int→Int→(List Int)→Option ((List S38)×Int)
 | 0,_,_,_,_,_=>none
 | k+1,l0,x6,x7,x11,l1_1=>(QU.f k l0 x7).bind fun t5=>(if x11<t5 then (if 0≤x11 then (if x11<(x6.length:Int) then (Qo.l0 k l0 (x6.set (x11:Int).toNat (⟨(Qac x6 x11).f0,wrap64 (((Qac x6 x11).f1)-1)⟩:S38)) x7 (wrap64 (x11+1)) l1_1) else none) else none) else ((Qag.f x6 x7 (wrap64 (x7+1))).bind fun t6=>(some (t6,0))))
def Qo.l1:Nat→(List S38)→Int→(List Int)→Int→Int→Int→(List S38)→Int→Int→Int→Int→Option ((List S38)×Int)
 | 0,_,_,_,_,_,_,_,_,_,_,_=>none
 | k+1,l0,a1_0,l1_1,a1_2,a1_3,a1_4,x6,x7,x9,x10,x12=>if x12<x10 then (if 0≤x12 then (if x12<(x6.length:Int) then (Qo.l1 k l0 a1_0 l1_1 a1_2 a1_3 a1_4 (x6.set (x12:Int).toNat (⟨(Qac x6 x12).f0,wrap64 (((Qac x6 x12).f1)+1)⟩:S38)) x7 x9 x10 (wrap64 (x12+1))) else none) else none) else (if 0≤x7 then (if x7<(l0.length:Int) then ((Qaf.f x6 x9 ([(⟨a1_2,wrap64 (((Qac l0 x7).f1)+1)⟩:S38)])).bind fun t7=>(some (t7,0))) else none) else none)
end
def Qo.f (k:Nat) (l0:List S38) (a1_0:Int) (l1_1:List Int) (a1_2:Int) (a1_3:Int) (a1_4:Int):Option ((List S38)×Int):=(QE.f k l0).bind fun t1=>(if t1=true then ((Qz.f l0).bind fun t2=>((QY.f k l0 l1_1).bind fun t3=>((QA.f k l0 a1_0 l1_1 a1_2 a1_3 a1_4 t3).bind fun bt4=>(if bt4.1=0 then (if a1_0=1 then (if 0≤t3 then (if t3<(t2.length:Int) then (some ((t2.set (t3:Int).toNat (⟨a1_2,(Qac t2 t3).f1⟩:S38)),0)) else none) else none) else (if a1_0=2 then (Qo.l0 k l0 t2 t3 (wrap64 (t3+1)) l1_1) else (Qo.l1 k l0 a1_0 l1_1 a1_2 a1_3 a1_4 t2 t3 bt4.2.1 bt4.2.2 bt4.2.1))) else (some (t2,bt4.1)))))) else (some (([]:List S38),2)))
def Qo.P0 (k:Nat):Prop:=∀ (l0:List S38) (x6:List S38) (x7:Int) (x11:Int) (l1_1:List Int) (r:(List S38)×Int),Qo.l0 k l0 x6 x7 x11 l1_1=some r→∀ st,canon 2 [0,6,7,11] st=⟨Qav [(0, .slc 0 [] 0 2 0 l0.length),(6, .slc 2 [] 0 2 0 x6.length),(7, .i .i64 x7),(11, .i .i64 x11)],rsL [(0,some ⟨false,2,0,(l0.map e38)⟩),(1,some ⟨false,1,0,(l1_1.map eI)⟩),(2,some ⟨true,2,0,(x6.map e38)⟩)],3⟩→W env Qo.c2 st (Qb 3 (Qs env Qo.c1 (Qb 0 (Qs env Qo.c0 (Qf [.t 4, .t 5] [false,false] ([.deep false false 2 (r.1.map e38), .i .i64 r.2],[none,none]))))))
def Qo.P1 (k:Nat):Prop:=∀ (l0:List S38) (a1_0:Int) (l1_1:List Int) (a1_2:Int) (a1_3:Int) (a1_4:Int) (x6:List S38) (x7:Int) (x9:Int) (x10:Int) (x12:Int) (r:(List S38)×Int),Qo.l1 k l0 a1_0 l1_1 a1_2 a1_3 a1_4 x6 x7 x9 x10 x12=some r→∀ st,canon 2 [0,3,6,7,9,10,12] st=⟨Qav [(0, .slc 0 [] 0 2 0 l0.length),(3, .bx [.i .i64 a1_0, .slc 1 [] 0 1 0 l1_1.length, .i .i64 a1_2, .i .i64 a1_3, .i .i64 a1_4] 0),(6, .slc 2 [] 0 2 0 x6.length),(7, .i .i64 x7),(9, .i .i64 x9),(10, .i .i64 x10),(12, .i .i64 x12)],rsL [(0,some ⟨false,2,0,(l0.map e38)⟩),(1,some ⟨false,1,0,(l1_1.map eI)⟩),(2,some ⟨true,2,0,(x6.map e38)⟩)],3⟩→W env Qo.c4 st (Qb 1 (Qs env Qo.c3 (Qb 0 (Qs env Qo.c0 (Qf [.t 4, .t 5] [false,false] ([.deep false false 2 (r.1.map e38), .i .i64 r.2],[none,none]))))))
theorem Qo.s0 (k:Nat) (ih:Qo.P0 k∧Qo.P1 k):Qo.P0 (k+1):=by
 intro l0 x6 x7 x11 l1_1 r H st hst
 rw [Qo.l0] at H
 rw [Qat (show Qo.c2=C.loop 2 [0,6,7,11] Qo.d2 from rfl),hst]
 unfold Qo.d2
 obtain ⟨t5,e1,H⟩:=Qp H
 have e1:=QU.link e1
 try simp only [TN,simprocAttr, *, Qo.c0,Qo.c1,Qo.c3]
 rcases Qad H with ⟨h2,H⟩|⟨h2,H⟩
 ·skip
  obtain ⟨h3,h4,H⟩:=i2 H
  try simp only [TN,simprocAttr, *, Qo.c0,Qo.c1,Qo.c3]
  refine ih.1 _ _ _ _ _ _ H _ ?_
  first|(rw [Qc];done)|(rw [Qc];rfl)|(rw [Qc];simp only [LL];rfl)
 ·skip
  obtain ⟨t6,e5,H⟩:=Qp H
  have e5:=Qag.link e5
  injection H with H;subst H
  try simp only [TN,simprocAttr, *, Qo.c0,Qo.c1,Qo.c3]
  try rfl
theorem Qo.s1 (k:Nat) (ih:Qo.P0 k∧Qo.P1 k):Qo.P1 (k+1):=by
 intro l0 a1_0 l1_1 a1_2 a1_3 a1_4 x6 x7 x9 x10 x12 r H st hst
 rw [Qo.l1] at H
 rw [Qat (show Qo.c4=C.loop 2 [0,3,6,7,9,10,12] Qo.d4 from rfl),hst]
 unfold Qo.d4
 try simp only [TN,simprocAttr, *, Qo.c0,Qo.c1,Qo.c3]
 rcases Qad H with ⟨h1,H⟩|⟨h1,H⟩
 ·skip
  obtain ⟨h2,h3,H⟩:=i2 H
  try simp only [TN,simprocAttr, *, Qo.c0,Qo.c1,Qo.c3]
  refine ih.2 _ _ _ _ _ _ _ _ _ _ _ _ H _ ?_
  first|(rw [Qc];done)|(rw [Qc];rfl)|(rw [Qc];simp only [LL];rfl)
 ·skip
  obtain ⟨h4,h5,H⟩:=i2 H
  obtain ⟨t7,e6,H⟩:=Qp H
  have e6:=Qaf.link e6
  injection H with H;subst H
  try simp only [TN,simprocAttr, *, Qo.c0,Qo.c1,Qo.c3,@Qcf]
  try rfl
theorem Qo.w:∀ k,Qo.P0 k∧Qo.P1 k:=by
 intro k
 induction k with
 | zero=>exact ⟨(by intro l0 x6 x7 x11 l1_1 r H;cases (show (none:Option ((List S38)×Int))=some r from H)),(by intro l0 a1_0 l1_1 a1_2 a1_3 a1_4 x6 x7 x9 x10 x12 r H;cases (show (none:Option ((List S38)×Int))=some r from H))⟩
 | succ k ih=>exact ⟨(Qo.s0 k ih),(Qo.s1 k ih)⟩
theorem Qo.link {k:Nat} {l0:List S38} {a1_0:Int} {l1_1:List Int} {a1_2:Int} {a1_3:Int} {a1_4:Int} {r:(List S38)×Int} (H:Qo.f k l0 a1_0 l1_1 a1_2 a1_3 a1_4=some r):Qao env 47 [.deep false true 2 (l0.map e38), .agg [.i .i64 a1_0, .deep false true 1 (l1_1.map eI), .i .i64 a1_2, .i .i64 a1_3, .i .i64 a1_4]]=some ([.deep false false 2 (r.1.map e38), .i .i64 r.2],[none,none]):=by
 unfold Qo.f at H
 refine QM (F:=Qo.F) (tm:=Qav [(0, .slc 0 [] 0 2 0 l0.length),(1, .agg [.i .i64 a1_0, .slc 1 [] 0 1 0 l1_1.length, .i .i64 a1_2, .i .i64 a1_3, .i .i64 a1_4])]) (rs:=rsL [(0,some ⟨false,2,0,(l0.map e38)⟩),(1,some ⟨false,1,0,(l1_1.map eI)⟩)]) (nx:=2) (ow:=[false,false]) rfl (by rfl) (by simp only [SN]) (by simp only [SN]) (by decide) ?_
 show W env Qo.B _ (Qf [.t 4, .t 5] [false,false] _)
 unfold Qo.B
 obtain ⟨t1,e1,H⟩:=Qp H
 have e1:=QE.link e1
 try simp only [TN,simprocAttr, *, Qo.c0,Qo.c1,Qo.c3]
 rcases QaN H with ⟨h2,H⟩|⟨h2,H⟩
 ·skip
  obtain ⟨t2,e3,H⟩:=Qp H
  have e3:=Qz.link e3
  obtain ⟨t3,e4,H⟩:=Qp H
  have e4:=QY.link e4
  obtain ⟨bt4,e5,H⟩:=Qp H
  have e5:=QA.link e5
  try simp only [TN,simprocAttr, *, Qo.c0,Qo.c1,Qo.c3]
  rcases ioq H with ⟨h6,H⟩|⟨h6,H⟩
  ·skip
   try simp only [TN,simprocAttr, *, Qo.c0,Qo.c1,Qo.c3]
   rcases ioq H with ⟨h7,H⟩|⟨h7,H⟩
   ·skip
    obtain ⟨h8,h9,H⟩:=i2 H
    injection H with H;subst H
    try simp only [TN,simprocAttr, *, Qo.c0,Qo.c1,Qo.c3]
    try rfl
   ·skip
    try simp only [TN,simprocAttr, *, Qo.c0,Qo.c1,Qo.c3]
    rcases ioq H with ⟨h10,H⟩|⟨h10,H⟩
    ·skip
     try simp only [TN,simprocAttr, *, Qo.c0,Qo.c1,Qo.c3]
     refine (Qo.w k).1 _ _ _ _ _ _ H _ ?_
     first|(rw [Qc];done)|(rw [Qc];rfl)|(rw [Qc];simp only [LL];rfl)
    ·skip
     try simp only [TN,simprocAttr, *, Qo.c0,Qo.c1,Qo.c3]
     refine (Qo.w k).2 _ _ _ _ _ _ _ _ _ _ _ _ H _ ?_
     first|(rw [Qc];done)|(rw [Qc];rfl)|(rw [Qc];simp only [LL];rfl)
  ·skip
   injection H with H;subst H
   try simp only [TN,simprocAttr, *, Qo.c0,Qo.c1,Qo.c3]
   try rfl
 ·skip
  injection H with H;subst H
  try simp only [TN,simprocAttr, *, Qo.c0,Qo.c1,Qo.c3]
  try rfl
end Go.Proofs.YtallpjhkmcgpoaaGreat.P
end
section
namespace Go.Proofs.YtallpjhkmcgpoaaGreat.P
open Go Go.RowKit Go.Proofs.YtallpjhkmcgpoaaGreat.V
def QF.l0:Nat→(List S38)→Int→Int→Option Int
 | 0,_,_,_=>none
 | k+1,l0,a1,x5=>if x5≥0 then (if 0≤x5 then (if x5<(l0.length:Int) then (if 0≤a1 then (if a1<(l0.length:Int) then (if ((Qac l0 x5).f1)≥((Qac l0 a1).f1) then (QF.l0 k l0 a1 (wrap64 (x5-1))) else (some x5)) else none) else none) else none) else none) else (some x5)
def QF.f (k:Nat) (l0:List S38) (a1:Int):Option Int:=(Qal.f k l0 a1).bind fun t1=>(if t1=true then (QF.l0 k l0 a1 (wrap64 (a1-1))) else (some (-1)))
def QF.P0 (k:Nat):Prop:=∀ (l0:List S38) (a1:Int) (x5:Int) (r:Int),QF.l0 k l0 a1 x5=some r→∀ st,canon 1 [0,1,5] st=⟨Qav [(0, .slc 0 [] 0 2 0 l0.length),(1, .i .i64 a1),(5, .i .i64 x5)],rsL [(0,some ⟨false,2,0,(l0.map e38)⟩)],1⟩→W env QF.c1 st (Qb 0 (Qs env QF.c0 (Qf [.t 4] [false] ([.i .i64 r],[none]))))
theorem QF.s0 (k:Nat) (ih:QF.P0 k):QF.P0 (k+1):=by
 intro l0 a1 x5 r H st hst
 rw [QF.l0] at H
 rw [Qat (show QF.c1=C.loop 1 [0,1,5] QF.d1 from rfl),hst]
 unfold QF.d1
 try simp only [TN,simprocAttr, *, QF.c0]
 rcases Qad H with ⟨h1,H⟩|⟨h1,H⟩
 ·skip
  obtain ⟨h2,h3,h4,h5,H⟩:=i4 H
  try simp only [TN,simprocAttr, *, QF.c0]
  rcases Qad H with ⟨h6,H⟩|⟨h6,H⟩
  ·skip
   try simp only [TN,simprocAttr, *, QF.c0]
   refine ih _ _ _ _ H _ ?_
   first|(rw [Qc];done)|(rw [Qc];rfl)|(rw [Qc];simp only [LL];rfl)
  ·skip
   injection H with H;subst H
   try simp only [TN,simprocAttr, *, QF.c0]
   try rfl
 ·skip
  injection H with H;subst H
  try simp only [TN,simprocAttr, *, QF.c0]
  try rfl
theorem QF.w:∀ k,QF.P0 k:=by
 intro k
 induction k with
 | zero=>exact by intro l0 a1 x5 r H;cases (show (none:Option Int)=some r from H)
 | succ k ih=>exact QF.s0 k ih
theorem QF.link {k:Nat} {l0:List S38} {a1:Int} {r:Int} (H:QF.f k l0 a1=some r):Qao env 39 [.deep false true 2 (l0.map e38), .i .i64 a1]=some ([.i .i64 r],[none]):=by
 unfold QF.f at H
 refine QM (F:=QF.F) (tm:=Qav [(0, .slc 0 [] 0 2 0 l0.length),(1, .i .i64 a1)]) (rs:=rsL [(0,some ⟨false,2,0,(l0.map e38)⟩)]) (nx:=1) (ow:=[false]) rfl (by rfl) (by simp only [SN]) (by simp only [SN]) (by decide) ?_
 show W env QF.B _ (Qf [.t 4] [false] _)
 unfold QF.B
 obtain ⟨t1,e1,H⟩:=Qp H
 have e1:=Qal.link e1
 try simp only [TN,simprocAttr, *, QF.c0]
 rcases QaN H with ⟨h2,H⟩|⟨h2,H⟩
 ·skip
  try simp only [TN,simprocAttr, *, QF.c0]
  refine (QF.w k) _ _ _ _ H _ ?_
  first|(rw [Qc];done)|(rw [Qc];rfl)|(rw [Qc];simp only [LL];rfl)
 ·skip
  injection H with H;subst H
  try simp only [TN,simprocAttr, *, QF.c0]
  try rfl
end Go.Proofs.YtallpjhkmcgpoaaGreat.P
end
section
namespace Go.Proofs.YtallpjhkmcgpoaaGreat.P
open Go Go.RowKit Go.Proofs.YtallpjhkmcgpoaaGreat.V
def Qa4.f (k:Nat) (l0:List S38) (a1:Int):Option Int:=(QF.f k l0 a1).bind fun t1=>((QS.f k l0 t1).bind fun t2=>((Qq.f k t2 a1).bind fun t3=>(some t3)))
theorem Qa4.link {k:Nat} {l0:List S38} {a1:Int} {r:Int} (H:Qa4.f k l0 a1=some r):Qao env 111 [.deep false true 2 (l0.map e38), .i .i64 a1]=some ([.i .i64 r],[none]):=by
 unfold Qa4.f at H
 refine QM (F:=Qa4.F) (tm:=Qav [(0, .slc 0 [] 0 2 0 l0.length),(1, .i .i64 a1)]) (rs:=rsL [(0,some ⟨false,2,0,(l0.map e38)⟩)]) (nx:=1) (ow:=[false]) rfl (by rfl) (by simp only [SN]) (by simp only [SN]) (by decide) ?_
 show W env Qa4.B _ (Qf [.t 4] [false] _)
 unfold Qa4.B
 obtain ⟨t1,e1,H⟩:=Qp H
 have e1:=QF.link e1
 obtain ⟨t2,e2,H⟩:=Qp H
 have e2:=QS.link e2
 obtain ⟨t3,e3,H⟩:=Qp H
 have e3:=Qq.link e3
 injection H with H;subst H
 try simp only [TN,simprocAttr, *]
 try rfl
end Go.Proofs.YtallpjhkmcgpoaaGreat.P
end
section
namespace Go.Proofs.YtallpjhkmcgpoaaGreat.P
open Go Go.RowKit Go.Proofs.YtallpjhkmcgpoaaGreat.V
def Qw.l0:Nat→(List Int)→Int→Int→Option (List Int)
 | 0,_,_,_=>none
 | k+1,l0,x2,x3=>if x2<x3 then (if 0≤x3 then (if x3<(l0.length:Int) then (if 0≤x2 then (if x2<(l0.length:Int) then (Qw.l0 k ((l0.set (x2:Int).toNat (rd l0 x3)).set (x3:Int).toNat (rd l0 x2)) (wrap64 (x2+1)) (wrap64 (x3-1))) else none) else none) else none) else none) else (some l0)
def Qw.f (k:Nat) (l0:List Int):Option (List Int):=Qw.l0 k l0 0 (wrap64 ((l0.length:Int)-1))
def Qw.P0 (k:Nat):Prop:=∀ (l0:List Int) (x2:Int) (x3:Int) (r:(List Int)),Qw.l0 k l0 x2 x3=some r→∀ st,canon 1 [0,2,3] st=⟨Qav [(0, .slc 0 [] 0 1 0 l0.length),(2, .i .i64 x2),(3, .i .i64 x3)],rsL [(0,some ⟨true,1,0,(l0.map eI)⟩)],1⟩→W env Qw.c0 st (Qb 0 (Qf [] [true] ([],[some (r.map eI)])))
theorem Qw.s0 (k:Nat) (ih:Qw.P0 k):Qw.P0 (k+1):=by
 intro l0 x2 x3 r H st hst
 rw [Qw.l0] at H
 rw [Qat (show Qw.c0=C.loop 1 [0,2,3] Qw.d0 from rfl),hst]
 unfold Qw.d0
 try simp only [TN,simprocAttr, *]
 rcases Qad H with ⟨h1,H⟩|⟨h1,H⟩
 ·skip
  obtain ⟨h2,h3,h4,h5,H⟩:=i4 H
  try simp only [TN,simprocAttr, *]
  refine ih _ _ _ _ H _ ?_
  first|(rw [Qc];done)|(rw [Qc];rfl)|(rw [Qc];simp only [LL];rfl)
 ·skip
  injection H with H;subst H
  try simp only [TN,simprocAttr, *]
  try rfl
theorem Qw.w:∀ k,Qw.P0 k:=by
 intro k
 induction k with
 | zero=>exact by intro l0 x2 x3 r H;cases (show (none:Option (List Int))=some r from H)
 | succ k ih=>exact Qw.s0 k ih
theorem Qw.link {k:Nat} {l0:List Int} {r:(List Int)} (H:Qw.f k l0=some r):Qao env 112 [.deep false false 1 (l0.map eI)]=some ([],[some (r.map eI)]):=by
 unfold Qw.f at H
 refine QM (F:=Qw.F) (tm:=Qav [(0, .slc 0 [] 0 1 0 l0.length)]) (rs:=rsL [(0,some ⟨true,1,0,(l0.map eI)⟩)]) (nx:=1) (ow:=[true]) rfl (by rfl) (by simp only [SN]) (by simp only [SN]) (by decide) ?_
 show W env Qw.B _ (Qf [] [true] _)
 unfold Qw.B
 try simp only [TN,simprocAttr, *]
 refine (Qw.w k) _ _ _ _ H _ ?_
 first|(rw [Qc];done)|(rw [Qc];rfl)|(rw [Qc];simp only [LL];rfl)
end Go.Proofs.YtallpjhkmcgpoaaGreat.P
end
section
namespace Go.Proofs.YtallpjhkmcgpoaaGreat.P
open Go Go.RowKit Go.Proofs.YtallpjhkmcgpoaaGreat.V
def Q3.l0:Nat→(List S38)→Int→(List Int)→Option (List Int)
 | 0,_,_,_=>none
 | k+1,l0,a1,x5=>(Qal.f k l0 a1).bind fun t1=>(if t1=true then (if a1 > 0 then ((Qa4.f k l0 a1).bind fun t2=>(if x5.length<17592186044416 then ((QF.f k l0 a1).bind fun t3=>(Q3.l0 k l0 t3 (x5++([t2])))) else none)) else ((Qw.f k x5).bind fun t4=>(if t4.length=x5.length then (some t4) else none))) else ((Qw.f k x5).bind fun t5=>(if t5.length=x5.length then (some t5) else none)))
def Q3.f (k:Nat) (l0:List S38) (a1:Int):Option (List Int):=Q3.l0 k l0 a1 ([]:List Int)
def Q3.P0 (k:Nat):Prop:=∀ (l0:List S38) (a1:Int) (x5:List Int) (r:(List Int)),Q3.l0 k l0 a1 x5=some r→∀ st,canon 1 [0,1,5] st=⟨Qav [(0, .slc 0 [] 0 2 0 l0.length),(1, .i .i64 a1),(5, .slc 1 [] 0 1 0 x5.length)],rsL [(0,some ⟨false,2,0,(l0.map e38)⟩),(1,some ⟨true,1,0,(x5.map eI)⟩)],2⟩→W env Q3.c1 st (Qb 0 (Qs env Q3.c0 (Qf [.t 4] [false] ([.deep false false 1 (r.map eI)],[none]))))
theorem Q3.s0 (k:Nat) (ih:Q3.P0 k):Q3.P0 (k+1):=by
 intro l0 a1 x5 r H st hst
 rw [Q3.l0] at H
 rw [Qat (show Q3.c1=C.loop 1 [0,1,5] Q3.d1 from rfl),hst]
 unfold Q3.d1
 obtain ⟨t1,e1,H⟩:=Qp H
 have e1:=Qal.link e1
 try simp only [TN,simprocAttr, *, Q3.c0]
 rcases QaN H with ⟨h2,H⟩|⟨h2,H⟩
 ·skip
  try simp only [TN,simprocAttr, *, Q3.c0]
  rcases Qad H with ⟨h3,H⟩|⟨h3,H⟩
  ·skip
   obtain ⟨t2,e4,H⟩:=Qp H
   have e4:=Qa4.link e4
   obtain ⟨h5,H⟩:=i1 H
   have h6:(x5.length+1) * 8≤140737488355328:=by omega
   obtain ⟨t3,e7,H⟩:=Qp H
   have e7:=QF.link e7
   try simp only [TN,simprocAttr, *, Q3.c0]
   refine ih _ _ _ _ H _ ?_
   first|(rw [Qc];done)|(rw [Qc];rfl)|(rw [Qc];simp only [LL];rfl)
  ·skip
   obtain ⟨t4,e8,H⟩:=Qp H
   have e8:=Qw.link e8
   obtain ⟨q9,H⟩:=Qco H
   injection H with H;subst H
   try simp only [TN,simprocAttr, *, Q3.c0]
   try rfl
 ·skip
  obtain ⟨t5,e10,H⟩:=Qp H
  have e10:=Qw.link e10
  obtain ⟨q11,H⟩:=Qco H
  injection H with H;subst H
  try simp only [TN,simprocAttr, *, Q3.c0]
  try rfl
theorem Q3.w:∀ k,Q3.P0 k:=by
 intro k
 induction k with
 | zero=>exact by intro l0 a1 x5 r H;cases (show (none:Option (List Int))=some r from H)
 | succ k ih=>exact Q3.s0 k ih
theorem Q3.link {k:Nat} {l0:List S38} {a1:Int} {r:(List Int)} (H:Q3.f k l0 a1=some r):Qao env 77 [.deep false true 2 (l0.map e38), .i .i64 a1]=some ([.deep false false 1 (r.map eI)],[none]):=by
 unfold Q3.f at H
 refine QM (F:=Q3.F) (tm:=Qav [(0, .slc 0 [] 0 2 0 l0.length),(1, .i .i64 a1)]) (rs:=rsL [(0,some ⟨false,2,0,(l0.map e38)⟩)]) (nx:=1) (ow:=[false]) rfl (by rfl) (by simp only [SN]) (by simp only [SN]) (by decide) ?_
 show W env Q3.B _ (Qf [.t 4] [false] _)
 unfold Q3.B
 try simp only [TN,simprocAttr, *, Q3.c0]
 refine (Q3.w k) _ _ _ _ H _ ?_
 first|(rw [Qc];done)|(rw [Qc];rfl)|(rw [Qc];simp only [LL];rfl)
end Go.Proofs.YtallpjhkmcgpoaaGreat.P
end
section
namespace Go.Proofs.YtallpjhkmcgpoaaGreat.P
open Go Go.RowKit Go.Proofs.YtallpjhkmcgpoaaGreat.V
def QaQ.f (l0:List Int) (a1:Int) (a2:Int):Option (List Int):=if 0≤a1 then (if a1≤a2 then (if a2≤(l0.length:Int) then (if l0.length * 8≤140737488355328 then some (l0.take a1.toNat++l0.drop a2.toNat) else none) else none) else none) else none
theorem QaQ.link {l0:List Int} {a1 a2:Int} {r:List Int} (H:QaQ.f l0 a1 a2=some r):Qao env 79 [.deep false false 1 (l0.map eI), .i .i64 a1, .i .i64 a2]=some ([.deep false false 1 (r.map eI)],[none]):=by
 unfold QaQ.f at H
 obtain ⟨h1,H⟩:=Qco H
 obtain ⟨h2,H⟩:=Qco H
 obtain ⟨h3,H⟩:=Qco H
 obtain ⟨h4,H⟩:=Qco H
 injection H with H;subst H
 rw [List.map_append,List.map_take,List.map_drop]
 exact Qko (zero:=[.i .i64 0]) (by':=8) rfl rfl rfl rfl QnU h1 h2 (by rw [List.length_map];exact h3) (by rw [List.length_map];exact h4)
end Go.Proofs.YtallpjhkmcgpoaaGreat.P
end
section
namespace Go.Proofs.YtallpjhkmcgpoaaGreat.P
open Go Go.RowKit Go.Proofs.YtallpjhkmcgpoaaGreat.V
def QaP.f (l0:List Int) (a1:Int) (l2:List Int):Option (List Int):=if 0≤a1 then (if a1≤(l0.length:Int) then (if 0<l2.length then (if (l0.length+l2.length) * 8≤140737488355328 then some (l0.take a1.toNat++l2++l0.drop a1.toNat) else none) else none) else none) else none
theorem QaP.link {l0:List Int} {a1:Int} {l2:List Int} {r:List Int} (H:QaP.f l0 a1 l2=some r):Qao env 80 [.deep false false 1 (l0.map eI), .i .i64 a1, .deep false false 1 (l2.map eI)]=some ([.deep false false 1 (r.map eI)],[none,some (l2.map eI)]):=by
 unfold QaP.f at H
 obtain ⟨h1,H⟩:=Qco H
 obtain ⟨h2,H⟩:=Qco H
 obtain ⟨h3,H⟩:=Qco H
 obtain ⟨h4,H⟩:=Qco H
 injection H with H;subst H
 rw [List.map_append,List.map_append,List.map_take,List.map_drop]
 exact Qj3 (zero:=[.i .i64 0]) (by':=8) (rot:=114) rfl rfl rfl rfl (by decide) QnU QnU (by rw [List.length_map];exact h3) h1 (by rw [List.length_map];exact h2) (by rw [List.length_map,List.length_map];exact h4)
end Go.Proofs.YtallpjhkmcgpoaaGreat.P
end
section
namespace Go.Proofs.YtallpjhkmcgpoaaGreat.P
open Go Go.RowKit Go.Proofs.YtallpjhkmcgpoaaGreat.V
def Qai.f (k:Nat) (p0_0:List S38) (p0_1:List Int) (p0_2:List S67) (a1:Int) (a2_0:Int) (l2_1:List Int) (a2_2:Int) (a2_3:Int) (a2_4:Int) (a3:Int):Option ((List S38)×(List Int)×(List S67)):=(Qq.f k p0_1 a1).bind fun t1=>((Q3.f k p0_0 t1).bind fun t2=>((QA.f k p0_0 a2_0 t2 a2_2 a2_3 a2_4 t1).bind fun bt3=>((Qo.f k p0_0 a2_0 t2 a2_2 a2_3 a2_4).bind fun bt4=>(if a2_0=2 then ((QaQ.f p0_1 t1 (wrap64 (t1+1))).bind fun t5=>(if p0_2.length<2513169434916 then (some (bt4.1,t5,(p0_2++([(⟨a2_0,t2,a2_2,a2_3,a2_4⟩:S67)])))) else none)) else (if a2_0=3 then ((QaP.f p0_1 bt3.2.1 ([a3])).bind fun t6=>(if p0_2.length<2513169434916 then (some (bt4.1,t6,(p0_2++([(⟨a2_0,t2,a2_2,a2_3,a2_4⟩:S67)])))) else none)) else (if p0_2.length<2513169434916 then (some (bt4.1,p0_1,(p0_2++([(⟨a2_0,t2,a2_2,a2_3,a2_4⟩:S67)])))) else none))))))
theorem Qai.link {k:Nat} {p0_0:List S38} {p0_1:List Int} {p0_2:List S67} {a1:Int} {a2_0:Int} {l2_1:List Int} {a2_2:Int} {a2_3:Int} {a2_4:Int} {a3:Int} {r:(List S38)×(List Int)×(List S67)} (H:Qai.f k p0_0 p0_1 p0_2 a1 a2_0 l2_1 a2_2 a2_3 a2_4 a3=some r):Qao env 34 [.deep true false 3 [[.deep false false 2 (p0_0.map e38), .deep false false 1 (p0_1.map eI), .deep false false 5 (p0_2.map (e67 false))]], .i .i64 a1, .agg [.i .i64 a2_0, .deep false true 1 (l2_1.map eI), .i .i64 a2_2, .i .i64 a2_3, .i .i64 a2_4], .i .i64 a3]=some ([],[some [[.deep false false 2 (r.1.map e38), .deep false false 1 (r.2.1.map eI), .deep false false 5 (r.2.2.map (e67 false))]],none]):=by
 unfold Qai.f at H
 refine QM (F:=Qai.F) (tm:=Qav [(0, .ptr 0 [] 0 0 0),(1, .i .i64 a1),(2, .agg [.i .i64 a2_0, .slc 1 [] 0 1 0 l2_1.length, .i .i64 a2_2, .i .i64 a2_3, .i .i64 a2_4]),(3, .i .i64 a3)]) (rs:=rsL [(0,some ⟨true,3,0,[[.deep false false 2 (p0_0.map e38), .deep false false 1 (p0_1.map eI), .deep false false 5 (p0_2.map (e67 false))]]⟩),(1,some ⟨false,1,0,(l2_1.map eI)⟩)]) (nx:=2) (ow:=[true,false]) rfl (by rfl) (by simp only [SN]) (by simp only [SN]) (by decide) ?_
 show W env Qai.B _ (Qf [] [true,false] _)
 unfold Qai.B
 obtain ⟨t1,e1,H⟩:=Qp H
 have e1:=Qq.link e1
 obtain ⟨t2,e2,H⟩:=Qp H
 have e2:=Q3.link e2
 obtain ⟨bt3,e3,H⟩:=Qp H
 have e3:=QA.link e3
 obtain ⟨bt4,e4,H⟩:=Qp H
 have e4:=Qo.link e4
 try simp only [TN,simprocAttr, *]
 rcases ioq H with ⟨h5,H⟩|⟨h5,H⟩
 ·skip
  obtain ⟨t5,e6,H⟩:=Qp H
  have e6:=QaQ.link e6
  obtain ⟨h7,H⟩:=i1 H
  have h8:(p0_2.length+1) * 56≤140737488355328:=by omega
  injection H with H;subst H
  try simp only [TN,simprocAttr, *, @QfS]
  try rfl
 ·skip
  try simp only [TN,simprocAttr, *]
  rcases ioq H with ⟨h9,H⟩|⟨h9,H⟩
  ·skip
   obtain ⟨t6,e10,H⟩:=Qp H
   have e10:=QaP.link e10
   obtain ⟨h11,H⟩:=i1 H
   have h12:(p0_2.length+1) * 56≤140737488355328:=by omega
   injection H with H;subst H
   try simp only [TN,simprocAttr, *, @QfS]
   try rfl
  ·skip
   obtain ⟨h13,H⟩:=i1 H
   have h14:(p0_2.length+1) * 56≤140737488355328:=by omega
   injection H with H;subst H
   try simp only [TN,simprocAttr, *, @QfS]
   try rfl
end Go.Proofs.YtallpjhkmcgpoaaGreat.P
end
section
namespace Go.Proofs.YtallpjhkmcgpoaaGreat.P
open Go Go.RowKit Go.Proofs.YtallpjhkmcgpoaaGreat.V
def Qaq.f (a0_0:Int) (a0_1:Int) (v0_0:Int):Option Bool:=some (a0_0 == v0_0)
theorem Qaq.link {a0_0:Int} {a0_1:Int} {v0_0:Int} {r:Bool} (H:Qaq.f a0_0 a0_1 v0_0=some r):Qao env 81 [.agg [.i .i64 a0_0, .i .i64 a0_1], .deep true true 1 [[.i .i64 v0_0]]]=some ([.b r],[none]):=by
 unfold Qaq.f at H
 refine QM (F:=Qaq.F) (tm:=Qav [(0, .agg [.i .i64 a0_0, .i .i64 a0_1]),(1, .ptr 0 [] 0 0 0)]) (rs:=rsL [(0,some ⟨false,1,0,[[.i .i64 v0_0]]⟩)]) (nx:=1) (ow:=[false]) rfl (by rfl) (by simp only [SN]) (by simp only [SN]) (by decide) ?_
 show W env Qaq.B _ (Qf [.t 3] [false] _)
 unfold Qaq.B
 injection H with H;subst H
 try simp only [TN,simprocAttr, *]
 try rfl
end Go.Proofs.YtallpjhkmcgpoaaGreat.P
end
section
namespace Go.Proofs.YtallpjhkmcgpoaaGreat.P
open Go Go.RowKit Go.Proofs.YtallpjhkmcgpoaaGreat.V
def Qd.l0:Nat→(List S40)→Int→Int→Int→Option Int
 | 0,_,_,_,_=>none
 | k+1,l0,x7,x8,g1_0_0=>if x8<x7 then (if 0≤x8 then (if x8<(l0.length:Int) then ((Qaq.f ((Qah l0 x8).f0) ((Qah l0 x8).f1) g1_0_0).bind fun t1=>(if t1=true then (some x8) else (Qd.l0 k l0 x7 (wrap64 (x8+1)) g1_0_0))) else none) else none) else (some (-1))
def Qd.f (k:Nat) (l0:List S40) (g1_0_0:Int):Option Int:=Qd.l0 k l0 (l0.length:Int) 0 g1_0_0
def Qd.P0 (k:Nat):Prop:=∀ (l0:List S40) (x7:Int) (x8:Int) (g1_0_0:Int) (r:Int),Qd.l0 k l0 x7 x8 g1_0_0=some r→∀ st,canon 5 [0,1,7,8] st=⟨Qav [(0, .slc 0 [] 0 2 0 l0.length),(1, .fn 81 [.ptr 1 [] 0 0 0]),(7, .i .i64 x7),(8, .i .i64 x8)],rsL [(0,some ⟨false,2,0,(l0.map e40)⟩),(1,some ⟨false,1,0,[[.i .i64 g1_0_0]]⟩),(2,none),(3,none),(4,none)],5⟩→W env Qd.c1 st (Qb 0 (Qs env Qd.c0 (Qf [.t 4] [false,false] ([.i .i64 r],[none,none]))))
theorem Qd.s0 (k:Nat) (ih:Qd.P0 k):Qd.P0 (k+1):=by
 intro l0 x7 x8 g1_0_0 r H st hst
 rw [Qd.l0] at H
 rw [Qat (show Qd.c1=C.loop 5 [0,1,7,8] Qd.d1 from rfl),hst]
 unfold Qd.d1
 try simp only [TN,simprocAttr, *, Qd.c0]
 rcases Qad H with ⟨h1,H⟩|⟨h1,H⟩
 ·skip
  obtain ⟨h2,h3,H⟩:=i2 H
  obtain ⟨t1,e4,H⟩:=Qp H
  have e4:=Qaq.link e4
  try simp only [TN,simprocAttr, *, Qd.c0]
  rcases QaN H with ⟨h5,H⟩|⟨h5,H⟩
  ·skip
   injection H with H;subst H
   try simp only [TN,simprocAttr, *, Qd.c0]
   try rfl
  ·skip
   try simp only [TN,simprocAttr, *, Qd.c0]
   refine ih _ _ _ _ _ H _ ?_
   first|(rw [Qc];done)|(rw [Qc];rfl)|(rw [Qc];simp only [LL];rfl)
 ·skip
  injection H with H;subst H
  try simp only [TN,simprocAttr, *, Qd.c0]
  try rfl
theorem Qd.w:∀ k,Qd.P0 k:=by
 intro k
 induction k with
 | zero=>exact by intro l0 x7 x8 g1_0_0 r H;cases (show (none:Option Int)=some r from H)
 | succ k ih=>exact Qd.s0 k ih
theorem Qd.link {k:Nat} {l0:List S40} {g1_0_0:Int} {r:Int} (H:Qd.f k l0 g1_0_0=some r):Qao env 95 [.deep false true 2 (l0.map e40), .fn 81 [.deep true true 1 [[.i .i64 g1_0_0]]]]=some ([.i .i64 r],[none,none]):=by
 unfold Qd.f at H
 refine QM (F:=Qd.F) (tm:=Qav [(0, .slc 0 [] 0 2 0 l0.length),(1, .fn 81 [.ptr 1 [] 0 0 0])]) (rs:=rsL [(0,some ⟨false,2,0,(l0.map e40)⟩),(1,some ⟨false,1,0,[[.i .i64 g1_0_0]]⟩)]) (nx:=2) (ow:=[false,false]) rfl (by rfl) (by simp only [SN,Qfr,Qfq,rsA,List.map_cons,List.map_nil,List.length_cons,List.length_nil,Bool.not_true,List.cons_append,List.nil_append]) (by simp only [SN,Qfr,Qfq,rsA,List.map_cons,List.map_nil,List.length_cons,List.length_nil,Bool.not_true,List.cons_append,List.nil_append]) (by decide) ?_
 show W env Qd.B _ (Qf [.t 4] [false,false] _)
 unfold Qd.B
 try simp only [TN,simprocAttr, *, Qd.c0]
 refine (Qd.w k) _ _ _ _ _ H _ ?_
 first|(rw [Qc];done)|(rw [Qc];rfl)|(rw [Qc];simp only [LL];rfl)
end Go.Proofs.YtallpjhkmcgpoaaGreat.P
end
section
namespace Go.Proofs.YtallpjhkmcgpoaaGreat.P
open Go Go.RowKit Go.Proofs.YtallpjhkmcgpoaaGreat.V
def QD.f (k:Nat) (l0:List S40) (g1_0_0:Int):Option Bool:=(Qd.f k l0 g1_0_0).bind fun t1=>(some (decide (t1≥0)))
theorem QD.link {k:Nat} {l0:List S40} {g1_0_0:Int} {r:Bool} (H:QD.f k l0 g1_0_0=some r):Qao env 55 [.deep false true 2 (l0.map e40), .fn 81 [.deep true true 1 [[.i .i64 g1_0_0]]]]=some ([.b r],[none,none]):=by
 unfold QD.f at H
 refine QM (F:=QD.F) (tm:=Qav [(0, .slc 0 [] 0 2 0 l0.length),(1, .fn 81 [.ptr 1 [] 0 0 0])]) (rs:=rsL [(0,some ⟨false,2,0,(l0.map e40)⟩),(1,some ⟨false,1,0,[[.i .i64 g1_0_0]]⟩)]) (nx:=2) (ow:=[false,false]) rfl (by rfl) (by simp only [SN,Qfr,Qfq,rsA,List.map_cons,List.map_nil,List.length_cons,List.length_nil,Bool.not_true,List.cons_append,List.nil_append]) (by simp only [SN,Qfr,Qfq,rsA,List.map_cons,List.map_nil,List.length_cons,List.length_nil,Bool.not_true,List.cons_append,List.nil_append]) (by decide) ?_
 show W env QD.B _ (Qf [.t 4] [false,false] _)
 unfold QD.B
 obtain ⟨t1,e1,H⟩:=Qp H
 have e1:=Qd.link e1
 injection H with H;subst H
 try simp only [TN,simprocAttr, *]
 try rfl
end Go.Proofs.YtallpjhkmcgpoaaGreat.P
end
section
namespace Go.Proofs.YtallpjhkmcgpoaaGreat.P
open Go Go.RowKit Go.Proofs.YtallpjhkmcgpoaaGreat.V
def QO.l0:Nat→(List S40)→(List Int)→Int→Int→(List S38)→Option (List Int)
 | 0,_,_,_,_,_=>none
 | k+1,l1,x5,x9,x10,l0=>if x10<x9 then ((QD.f k l1 x10).bind fun t1=>(if t1=true then (QO.l0 k l1 x5 x9 (wrap64 (x10+1)) l0) else (if x5.length<17592186044416 then (QO.l0 k l1 (x5++([x10])) x9 (wrap64 (x10+1)) l0) else none))) else (some x5)
def QO.f (k:Nat) (l0:List S38) (l1:List S40):Option (List Int):=QO.l0 k l1 ([]:List Int) (l0.length:Int) 0 l0
def QO.P0 (k:Nat):Prop:=∀ (l1:List S40) (x5:List Int) (x9:Int) (x10:Int) (l0:List S38) (r:(List Int)),QO.l0 k l1 x5 x9 x10 l0=some r→∀ st,canon 2 [1,5,9,10] st=⟨Qav [(1, .slc 1 [] 0 2 0 l1.length),(5, .slc 2 [] 0 1 0 x5.length),(9, .i .i64 x9),(10, .i .i64 x10)],rsL [(0,some ⟨false,2,0,(l0.map e38)⟩),(1,some ⟨false,2,0,(l1.map e40)⟩),(2,some ⟨true,1,0,(x5.map eI)⟩)],3⟩→W env QO.c1 st (Qb 0 (Qs env QO.c0 (Qf [.t 4] [false,false] ([.deep false false 1 (r.map eI)],[none,none]))))
theorem QO.s0 (k:Nat) (ih:QO.P0 k):QO.P0 (k+1):=by
 intro l1 x5 x9 x10 l0 r H st hst
 rw [QO.l0] at H
 rw [Qat (show QO.c1=C.loop 2 [1,5,9,10] QO.d1 from rfl),hst]
 unfold QO.d1
 try simp only [TN,simprocAttr, *, QO.c0]
 rcases Qad H with ⟨h1,H⟩|⟨h1,H⟩
 ·skip
  obtain ⟨t1,e2,H⟩:=Qp H
  have e2:=QD.link e2
  try simp only [TN,simprocAttr, *, QO.c0]
  rcases QaN H with ⟨h3,H⟩|⟨h3,H⟩
  ·skip
   try simp only [TN,simprocAttr, *, QO.c0]
   refine ih _ _ _ _ _ _ H _ ?_
   first|(rw [Qc];done)|(rw [Qc];rfl)|(rw [Qc];simp only [LL];rfl)
  ·skip
   obtain ⟨h4,H⟩:=i1 H
   have h5:(x5.length+1) * 8≤140737488355328:=by omega
   try simp only [TN,simprocAttr, *, QO.c0]
   refine ih _ _ _ _ _ _ H _ ?_
   first|(rw [Qc];done)|(rw [Qc];rfl)|(rw [Qc];simp only [LL];rfl)
 ·skip
  injection H with H;subst H
  try simp only [TN,simprocAttr, *, QO.c0]
  try rfl
theorem QO.w:∀ k,QO.P0 k:=by
 intro k
 induction k with
 | zero=>exact by intro l1 x5 x9 x10 l0 r H;cases (show (none:Option (List Int))=some r from H)
 | succ k ih=>exact QO.s0 k ih
theorem QO.link {k:Nat} {l0:List S38} {l1:List S40} {r:(List Int)} (H:QO.f k l0 l1=some r):Qao env 35 [.deep false true 2 (l0.map e38), .deep false true 2 (l1.map e40)]=some ([.deep false false 1 (r.map eI)],[none,none]):=by
 unfold QO.f at H
 refine QM (F:=QO.F) (tm:=Qav [(0, .slc 0 [] 0 2 0 l0.length),(1, .slc 1 [] 0 2 0 l1.length)]) (rs:=rsL [(0,some ⟨false,2,0,(l0.map e38)⟩),(1,some ⟨false,2,0,(l1.map e40)⟩)]) (nx:=2) (ow:=[false,false]) rfl (by rfl) (by simp only [SN]) (by simp only [SN]) (by decide) ?_
 show W env QO.B _ (Qf [.t 4] [false,false] _)
 unfold QO.B
 try simp only [TN,simprocAttr, *, QO.c0]
 refine (QO.w k) _ _ _ _ _ _ H _ ?_
 first|(rw [Qc];done)|(rw [Qc];rfl)|(rw [Qc];simp only [LL];rfl)
end Go.Proofs.YtallpjhkmcgpoaaGreat.P
end
