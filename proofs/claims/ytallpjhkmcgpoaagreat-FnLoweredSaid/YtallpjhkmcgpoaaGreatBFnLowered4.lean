/- FnLowered: L83 L8400082 L36 L37 L84 L38 L42 L7 L9 L10 L11 L93 L48 L12 L13 L49 L14 L120 L12100140 L12100119 L94 L50 L52 L53 L54 L15 L56 L5700095 L5700055 L57 L5800095 L5800055 L16 L3 XBase XEv XEvP XDraw XDrawOnce XMark XTree XDrawTree XDrawNear XDrawC XEnd XHas L97 XNav XUnd XMap XDrawM XAnc L101 XKids XKidsI XRd XRev L96 L60 XPath XEvR L99 XNodeA L121 XCodeA L122 L100 XApply XCut XCut2 XCut3 XCut4 XOpB XLow1 L98 L61. -/
import Derived.Test.YtallpjhkmcgpoaaGreatBFnLowered3
set_option linter.all false
set_option maxRecDepth 100000
set_option maxHeartbeats 8000000
section
namespace Go.Proofs.YtallpjhkmcgpoaaGreat.P
open Go Go.RowKit Go.Proofs.YtallpjhkmcgpoaaGreat.V
def Qae.f (k:Nat) (a0:Int) (a1:Int) (v0_0:List S38):Option Int:=if a0<a1 then ((QU.f k v0_0 a0).bind fun t1=>(if a1<t1 then (some 1) else (if a1<a0 then ((QU.f k v0_0 a1).bind fun t2=>(if a0≥t2 then (some 1) else (if a0=a1 then (some 0) else (some (-1))))) else (if a0=a1 then (some 0) else (some (-1)))))) else (if a1<a0 then ((QU.f k v0_0 a1).bind fun t3=>(if a0≥t3 then (some 1) else (if a0=a1 then (some 0) else (some (-1))))) else (if a0=a1 then (some 0) else (some (-1))))
theorem Qae.link {k:Nat} {a0:Int} {a1:Int} {v0_0:List S38} {r:Int} (H:Qae.f k a0 a1 v0_0=some r):Qao env 83 [.i .i64 a0, .i .i64 a1, .deep true true 1 [[.deep false true 2 (v0_0.map e38)]]]=some ([.i .i64 r],[none]):=by
 unfold Qae.f at H
 refine QM (F:=Qae.F) (tm:=Qav [(0, .i .i64 a0),(1, .i .i64 a1),(2, .ptr 0 [] 0 0 0)]) (rs:=rsL [(0,some ⟨false,1,0,[[.deep false true 2 (v0_0.map e38)]]⟩)]) (nx:=1) (ow:=[false]) rfl (by rfl) (by simp only [SN]) (by simp only [SN]) (by decide) ?_
 show W env Qae.B _ (Qf [.t 5] [false] _)
 unfold Qae.B
 try simp only [TN,simprocAttr, *]
 rcases Qad H with ⟨h1,H⟩|⟨h1,H⟩
 ·skip
  obtain ⟨t1,e2,H⟩:=Qp H
  have e2:=QU.link e2
  try simp only [TN,simprocAttr, *]
  rcases Qad H with ⟨h3,H⟩|⟨h3,H⟩
  ·skip
   injection H with H;subst H
   try simp only [TN,simprocAttr, *]
   try rfl
  ·skip
   try simp only [TN,simprocAttr, *]
   rcases Qad H with ⟨h4,H⟩|⟨h4,H⟩
   ·skip
    obtain ⟨t2,e5,H⟩:=Qp H
    have e5:=QU.link e5
    try simp only [TN,simprocAttr, *]
    rcases Qad H with ⟨h6,H⟩|⟨h6,H⟩
    ·skip
     injection H with H;subst H
     try simp only [TN,simprocAttr, *]
     try rfl
    ·skip
     try simp only [TN,simprocAttr, *]
     rcases ioq H with ⟨h7,H⟩|⟨h7,H⟩
     ·skip
      injection H with H;subst H
      try simp only [TN,simprocAttr, *]
      try rfl
     ·skip
      injection H with H;subst H
      try simp only [TN,simprocAttr, *]
      try rfl
   ·skip
    try simp only [TN,simprocAttr, *]
    rcases ioq H with ⟨h8,H⟩|⟨h8,H⟩
    ·skip
     injection H with H;subst H
     try simp only [TN,simprocAttr, *]
     try rfl
    ·skip
     injection H with H;subst H
     try simp only [TN,simprocAttr, *]
     try rfl
 ·skip
  try simp only [TN,simprocAttr, *]
  rcases Qad H with ⟨h9,H⟩|⟨h9,H⟩
  ·skip
   obtain ⟨t3,e10,H⟩:=Qp H
   have e10:=QU.link e10
   try simp only [TN,simprocAttr, *]
   rcases Qad H with ⟨h11,H⟩|⟨h11,H⟩
   ·skip
    injection H with H;subst H
    try simp only [TN,simprocAttr, *]
    try rfl
   ·skip
    try simp only [TN,simprocAttr, *]
    rcases ioq H with ⟨h12,H⟩|⟨h12,H⟩
    ·skip
     injection H with H;subst H
     try simp only [TN,simprocAttr, *]
     try rfl
    ·skip
     injection H with H;subst H
     try simp only [TN,simprocAttr, *]
     try rfl
  ·skip
   try simp only [TN,simprocAttr, *]
   rcases ioq H with ⟨h13,H⟩|⟨h13,H⟩
   ·skip
    injection H with H;subst H
    try simp only [TN,simprocAttr, *]
    try rfl
   ·skip
    injection H with H;subst H
    try simp only [TN,simprocAttr, *]
    try rfl
end Go.Proofs.YtallpjhkmcgpoaaGreat.P
end
section
namespace Go.Proofs.YtallpjhkmcgpoaaGreat.P
open Go Go.RowKit Go.Proofs.YtallpjhkmcgpoaaGreat.V
def Qbe.f (k:Nat) (l0:List Int) (g1_0_0:List S38):Option (List Int):=QkN (0:Int) (fun x y=>Qae.f k x y g1_0_0) l0
theorem Qbe.link {k:Nat} {l0:List Int} {g1_0_0:List S38} {r:List Int} (H:Qbe.f k l0 g1_0_0=some r):Qao env 82 [.deep false false 1 (l0.map eI), .fn 83 [.deep true true 1 [[.deep false true 2 (g1_0_0.map e38)]]]]=some ([],[some (r.map eI),none]) :=
 QlL (f:=82) (lit:=83) (e:=eI) (z:=(0:Int)) (c:=(fun x y=>Qae.f k x y g1_0_0)) rfl (fun x=>⟨_,rfl,rfl⟩) rfl rfl H (fun x y v h=>Qae.link h)
end Go.Proofs.YtallpjhkmcgpoaaGreat.P
end
section
namespace Go.Proofs.YtallpjhkmcgpoaaGreat.P
open Go Go.RowKit Go.Proofs.YtallpjhkmcgpoaaGreat.V
def QI.l0:Nat→(List Int)→Int→Int→(List S38)→(List S38)→Option (List Int)
 | 0,_,_,_,_,_=>none
 | k+1,x3,x11,x12,l0,c1_0=>if x12<x11 then (if x3.length<17592186044416 then (QI.l0 k (x3++([x12])) x11 (wrap64 (x12+1)) l0 c1_0) else none) else ((Qbe.f k x3 c1_0).bind fun t2=>(if t2.length=x3.length then (some t2) else none))
def QI.f (k:Nat) (l0:List S38):Option (List Int):=(QE.f k l0).bind fun t1=>(if t1=true then (QI.l0 k ([]:List Int) (l0.length:Int) 0 l0 l0) else (some ([]:List Int)))
def QI.P0 (k:Nat):Prop:=∀ (x3:List Int) (x11:Int) (x12:Int) (l0:List S38) (c1_0:List S38) (r:(List Int)),QI.l0 k x3 x11 x12 l0 c1_0=some r→∀ st,canon 1 [1,3,11,12] st=⟨Qav [(1, .ptr 1 [] 0 0 0),(3, .slc 2 [] 0 1 0 x3.length),(11, .i .i64 x11),(12, .i .i64 x12)],rsL [(0,some ⟨false,2,0,(l0.map e38)⟩),(1,some ⟨true,1,0,[[.deep false true 2 (c1_0.map e38)]]⟩),(2,some ⟨true,1,0,(x3.map eI)⟩)],3⟩→W env QI.c1 st (Qb 0 (Qs env QI.c0 (Qf [.t 2] [false] ([.deep false false 1 (r.map eI)],[none]))))
theorem QI.s0 (k:Nat) (ih:QI.P0 k):QI.P0 (k+1):=by
 intro x3 x11 x12 l0 c1_0 r H st hst
 rw [QI.l0] at H
 rw [Qat (show QI.c1=C.loop 1 [1,3,11,12] QI.d1 from rfl),hst]
 unfold QI.d1
 try simp only [TN,simprocAttr, *, QI.c0]
 rcases Qad H with ⟨h1,H⟩|⟨h1,H⟩
 ·skip
  obtain ⟨h2,H⟩:=i1 H
  have h3:(x3.length+1) * 8≤140737488355328:=by omega
  try simp only [TN,simprocAttr, *, QI.c0]
  refine ih _ _ _ _ _ _ H _ ?_
  first|(rw [Qc];done)|(rw [Qc];rfl)|(rw [Qc];simp only [LL];rfl)
 ·skip
  obtain ⟨t2,e4,H⟩:=Qp H
  have e4:=Qbe.link e4
  obtain ⟨q5,H⟩:=Qco H
  injection H with H;subst H
  try simp only [TN,simprocAttr, *, QI.c0]
  try rfl
theorem QI.w:∀ k,QI.P0 k:=by
 intro k
 induction k with
 | zero=>exact by intro x3 x11 x12 l0 c1_0 r H;cases (show (none:Option (List Int))=some r from H)
 | succ k ih=>exact QI.s0 k ih
theorem QI.link {k:Nat} {l0:List S38} {r:(List Int)} (H:QI.f k l0=some r):Qao env 36 [.deep false true 2 (l0.map e38)]=some ([.deep false false 1 (r.map eI)],[none]):=by
 unfold QI.f at H
 refine QM (F:=QI.F) (tm:=Qav [(0, .slc 0 [] 0 2 0 l0.length)]) (rs:=rsL [(0,some ⟨false,2,0,(l0.map e38)⟩)]) (nx:=1) (ow:=[false]) rfl (by rfl) (by simp only [SN]) (by simp only [SN]) (by decide) ?_
 show W env QI.B _ (Qf [.t 2] [false] _)
 unfold QI.B
 obtain ⟨t1,e1,H⟩:=Qp H
 have e1:=QE.link e1
 try simp only [TN,simprocAttr, *, QI.c0]
 rcases QaN H with ⟨h2,H⟩|⟨h2,H⟩
 ·skip
  try simp only [TN,simprocAttr, *, QI.c0]
  refine (QI.w k) _ _ _ _ _ _ H _ ?_
  first|(rw [Qc];done)|(rw [Qc];rfl)|(rw [Qc];simp only [LL];rfl)
 ·skip
  injection H with H;subst H
  try simp only [TN,simprocAttr, *, QI.c0]
  try rfl
end Go.Proofs.YtallpjhkmcgpoaaGreat.P
end
section
namespace Go.Proofs.YtallpjhkmcgpoaaGreat.P
open Go Go.RowKit Go.Proofs.YtallpjhkmcgpoaaGreat.V
def Q9.f (k:Nat) (l0:List Int) (a1:Int):Option Bool:=(Qq.f k l0 a1).bind fun t1=>(some (decide (t1≥0)))
theorem Q9.link {k:Nat} {l0:List Int} {a1:Int} {r:Bool} (H:Q9.f k l0 a1=some r):Qao env 37 [.deep false true 1 (l0.map eI), .i .i64 a1]=some ([.b r],[none]):=by
 unfold Q9.f at H
 refine QM (F:=Q9.F) (tm:=Qav [(0, .slc 0 [] 0 1 0 l0.length),(1, .i .i64 a1)]) (rs:=rsL [(0,some ⟨false,1,0,(l0.map eI)⟩)]) (nx:=1) (ow:=[false]) rfl (by rfl) (by simp only [SN]) (by simp only [SN]) (by decide) ?_
 show W env Q9.B _ (Qf [.t 4] [false] _)
 unfold Q9.B
 obtain ⟨t1,e1,H⟩:=Qp H
 have e1:=Qq.link e1
 injection H with H;subst H
 try simp only [TN,simprocAttr, *]
 try rfl
end Go.Proofs.YtallpjhkmcgpoaaGreat.P
end
section
namespace Go.Proofs.YtallpjhkmcgpoaaGreat.P
open Go Go.RowKit Go.Proofs.YtallpjhkmcgpoaaGreat.V
def Q4.l0:Nat→(List S40)→(List S40)→Int→Int→Option (List S40)
 | 0,_,_,_,_=>none
 | k+1,x3,l0,x8,x9=>if x9<x8 then (if 0≤x9 then (if x9<(l0.length:Int) then (if x3.length<8796093022208 then (Q4.l0 k (x3++([(⟨(Qah l0 x9).f1,(Qah l0 x9).f0⟩:S40)])) l0 x8 (wrap64 (x9+1))) else none) else none) else none) else (some x3)
def Q4.f (k:Nat) (l0:List S40):Option (List S40):=Q4.l0 k ([]:List S40) l0 (l0.length:Int) 0
def Q4.P0 (k:Nat):Prop:=∀ (x3:List S40) (l0:List S40) (x8:Int) (x9:Int) (r:(List S40)),Q4.l0 k x3 l0 x8 x9=some r→∀ st,canon 1 [3,7,8,9] st=⟨Qav [(3, .slc 1 [] 0 2 0 x3.length),(7, .slc 0 [] 0 2 0 l0.length),(8, .i .i64 x8),(9, .i .i64 x9)],rsL [(0,some ⟨false,2,0,(l0.map e40)⟩),(1,some ⟨true,2,0,(x3.map e40)⟩)],2⟩→W env Q4.c1 st (Qb 0 (Qs env Q4.c0 (Qf [.t 2] [false] ([.deep false false 2 (r.map e40)],[none]))))
theorem Q4.s0 (k:Nat) (ih:Q4.P0 k):Q4.P0 (k+1):=by
 intro x3 l0 x8 x9 r H st hst
 rw [Q4.l0] at H
 rw [Qat (show Q4.c1=C.loop 1 [3,7,8,9] Q4.d1 from rfl),hst]
 unfold Q4.d1
 try simp only [TN,simprocAttr, *, Q4.c0]
 rcases Qad H with ⟨h1,H⟩|⟨h1,H⟩
 ·skip
  obtain ⟨h2,h3,H⟩:=i2 H
  obtain ⟨h4,H⟩:=i1 H
  have h5:(x3.length+1) * 16≤140737488355328:=by omega
  try simp only [TN,simprocAttr, *, Q4.c0,@Qdl]
  refine ih _ _ _ _ _ H _ ?_
  first|(rw [Qc];done)|(rw [Qc];rfl)|(rw [Qc];simp only [LL];rfl)
 ·skip
  injection H with H;subst H
  try simp only [TN,simprocAttr, *, Q4.c0]
  try rfl
theorem Q4.w:∀ k,Q4.P0 k:=by
 intro k
 induction k with
 | zero=>exact by intro x3 l0 x8 x9 r H;cases (show (none:Option (List S40))=some r from H)
 | succ k ih=>exact Q4.s0 k ih
theorem Q4.link {k:Nat} {l0:List S40} {r:(List S40)} (H:Q4.f k l0=some r):Qao env 84 [.deep false true 2 (l0.map e40)]=some ([.deep false false 2 (r.map e40)],[none]):=by
 unfold Q4.f at H
 refine QM (F:=Q4.F) (tm:=Qav [(0, .slc 0 [] 0 2 0 l0.length)]) (rs:=rsL [(0,some ⟨false,2,0,(l0.map e40)⟩)]) (nx:=1) (ow:=[false]) rfl (by rfl) (by simp only [SN]) (by simp only [SN]) (by decide) ?_
 show W env Q4.B _ (Qf [.t 2] [false] _)
 unfold Q4.B
 try simp only [TN,simprocAttr, *, Q4.c0]
 refine (Q4.w k) _ _ _ _ _ H _ ?_
 first|(rw [Qc];done)|(rw [Qc];rfl)|(rw [Qc];simp only [LL];rfl)
end Go.Proofs.YtallpjhkmcgpoaaGreat.P
end
section
namespace Go.Proofs.YtallpjhkmcgpoaaGreat.P
open Go Go.RowKit Go.Proofs.YtallpjhkmcgpoaaGreat.V
def Qa3.f (k:Nat) (l0:List S38) (l1:List S40):Option (List Int):=(Q4.f k l1).bind fun t1=>((QO.f k l0 t1).bind fun t2=>(some t2))
theorem Qa3.link {k:Nat} {l0:List S38} {l1:List S40} {r:(List Int)} (H:Qa3.f k l0 l1=some r):Qao env 38 [.deep false true 2 (l0.map e38), .deep false true 2 (l1.map e40)]=some ([.deep false false 1 (r.map eI)],[none,none]):=by
 unfold Qa3.f at H
 refine QM (F:=Qa3.F) (tm:=Qav [(0, .slc 0 [] 0 2 0 l0.length),(1, .slc 1 [] 0 2 0 l1.length)]) (rs:=rsL [(0,some ⟨false,2,0,(l0.map e38)⟩),(1,some ⟨false,2,0,(l1.map e40)⟩)]) (nx:=2) (ow:=[false,false]) rfl (by rfl) (by simp only [SN]) (by simp only [SN]) (by decide) ?_
 show W env Qa3.B _ (Qf [.t 4] [false,false] _)
 unfold Qa3.B
 obtain ⟨t1,e1,H⟩:=Qp H
 have e1:=Q4.link e1
 obtain ⟨t2,e2,H⟩:=Qp H
 have e2:=QO.link e2
 injection H with H;subst H
 try simp only [TN,simprocAttr, *]
 try rfl
end Go.Proofs.YtallpjhkmcgpoaaGreat.P
end
section
namespace Go.Proofs.YtallpjhkmcgpoaaGreat.P
open Go Go.RowKit Go.Proofs.YtallpjhkmcgpoaaGreat.V
def Qbs.f (k:Nat) (l0:List S38) (a1:Int) (a2:Int):Option Bool:=(Qal.f k l0 a1).bind fun t1=>(if t1=true then ((Qal.f k l0 a2).bind fun t2=>(if t2=true then (if a1<a2 then ((QU.f k l0 a1).bind fun t3=>(some (decide (a2<t3)))) else (some false)) else (some false))) else (some false))
theorem Qbs.link {k:Nat} {l0:List S38} {a1:Int} {a2:Int} {r:Bool} (H:Qbs.f k l0 a1 a2=some r):Qao env 42 [.deep false true 2 (l0.map e38), .i .i64 a1, .i .i64 a2]=some ([.b r],[none]):=by
 unfold Qbs.f at H
 refine QM (F:=Qbs.F) (tm:=Qav [(0, .slc 0 [] 0 2 0 l0.length),(1, .i .i64 a1),(2, .i .i64 a2)]) (rs:=rsL [(0,some ⟨false,2,0,(l0.map e38)⟩)]) (nx:=1) (ow:=[false]) rfl (by rfl) (by simp only [SN]) (by simp only [SN]) (by decide) ?_
 show W env Qbs.B _ (Qf [.t 6] [false] _)
 unfold Qbs.B
 obtain ⟨t1,e1,H⟩:=Qp H
 have e1:=Qal.link e1
 try simp only [TN,simprocAttr, *]
 rcases QaN H with ⟨h2,H⟩|⟨h2,H⟩
 ·skip
  obtain ⟨t2,e3,H⟩:=Qp H
  have e3:=Qal.link e3
  try simp only [TN,simprocAttr, *]
  rcases QaN H with ⟨h4,H⟩|⟨h4,H⟩
  ·skip
   try simp only [TN,simprocAttr, *]
   rcases Qad H with ⟨h5,H⟩|⟨h5,H⟩
   ·skip
    obtain ⟨t3,e6,H⟩:=Qp H
    have e6:=QU.link e6
    injection H with H;subst H
    try simp only [TN,simprocAttr, *]
    try rfl
   ·skip
    injection H with H;subst H
    try simp only [TN,simprocAttr, *]
    try rfl
  ·skip
   injection H with H;subst H
   try simp only [TN,simprocAttr, *]
   try rfl
 ·skip
  injection H with H;subst H
  try simp only [TN,simprocAttr, *]
  try rfl
end Go.Proofs.YtallpjhkmcgpoaaGreat.P
end
section
namespace Go.Proofs.YtallpjhkmcgpoaaGreat.P
open Go Go.RowKit Go.Proofs.YtallpjhkmcgpoaaGreat.V
mutual
def Qa.l0:Nat→(List S38)→(List S38)→(List S40)→Int→Int→(List S38)→(List Int)→(List S67)→Option (List S67)
 | 0,_,_,_,_,_,_,_,_=>none
 | k+1,l0,l1,l2,x39,x40,c3_0,c3_1,c3_2=>if x40<x39 then (if c3_1.length<17592186044416 then (Qa.l0 k l0 l1 l2 x39 (wrap64 (x40+1)) c3_0 (c3_1++([x40])) c3_2) else none) else (Qa.l1 k l0 l1 l2 l2 (l2.length:Int) 0 c3_0 c3_1 c3_2)
def Qa.l1:Nat→(List S38)→(List S38)→(List S40)→(List S40)→Int→Int→(List S38)→(List Int)→(List S67)→Option (List S67)
 | 0,_,_,_,_,_,_,_,_,_=>none
 | k+1,l0,l1,l2,x54,x55,x56,c3_0,c3_1,c3_2=>if x56<x55 then (if 0≤x56 then (if x56<(l2.length:Int) then (if 0≤(Qah l2 x56).f1 then (if (Qah l2 x56).f1<(l1.length:Int) then (if 0≤(Qah l2 x56).f0 then (if (Qah l2 x56).f0<(l0.length:Int) then (if ((Qac l1 ((Qah l2 x56).f1)).f0)=((Qac l0 ((Qah l2 x56).f0)).f0) then (Qa.l1 k l0 l1 l2 l2 x55 (wrap64 (x56+1)) c3_0 c3_1 c3_2) else ((Qai.f k c3_0 c3_1 c3_2 ((Qah l2 x56).f0) 1 [] ((Qac l1 ((Qah l2 x56).f1)).f0) 0 0 0).bind fun bt4=>(Qa.l1 k l0 l1 l2 l2 x55 (wrap64 (x56+1)) bt4.1 bt4.2.1 bt4.2.2))) else none) else none) else none) else none) else none) else none) else ((QO.f k l0 l2).bind fun t5=>((QI.f k l0).bind fun t6=>(Qa.l2 k l1 l2 t5 t6 (t6.length:Int) 0 l0 c3_0 c3_1 c3_2)))
def Qa.l2:Nat→(List S38)→(List S40)→(List Int)→(List Int)→Int→Int→(List S38)→(List S38)→(List Int)→(List S67)→Option (List S67)
 | 0,_,_,_,_,_,_,_,_,_,_=>none
 | k+1,l1,l2,x12,x85,x86,x87,l0,c3_0,c3_1,c3_2=>if x87<x86 then (if 0≤x87 then (if x87<(x85.length:Int) then ((Q9.f k x12 (rd x85 x87)).bind fun t7=>(if t7=true then ((Qai.f k c3_0 c3_1 c3_2 (rd x85 x87) 2 [] 0 0 0 0).bind fun bt8=>(Qa.l2 k l1 l2 x12 x85 x86 (wrap64 (x87+1)) l0 bt8.1 bt8.2.1 bt8.2.2)) else (Qa.l2 k l1 l2 x12 x85 x86 (wrap64 (x87+1)) l0 c3_0 c3_1 c3_2))) else none) else none) else (Qa.l3 k l1 l2 (c3_1.length:Int) 0 l0 c3_0 c3_1 c3_2)
def Qa.l3:Nat→(List S38)→(List S40)→Int→Int→(List S38)→(List S38)→(List Int)→(List S67)→Option (List S67)
 | 0,_,_,_,_,_,_,_,_=>none
 | k+1,l1,l2,x103,x104,l0,c3_0,c3_1,c3_2=>if x104<x103 then (if 0≤x104 then (if x104<(l2.length:Int) then (if x104<(c3_1.length:Int) then (Qa.l3 k l1 l2 x103 (wrap64 (x104+1)) l0 c3_0 (c3_1.set (x104:Int).toNat ((Qah l2 x104).f1)) c3_2) else none) else none) else none) else ((Qa3.f k l1 l2).bind fun t9=>(Qa.l4 k l1 t9 (t9.length:Int) 0 l0 l2 c3_0 c3_1 c3_2))
def Qa.l4:Nat→(List S38)→(List Int)→Int→Int→(List S38)→(List S40)→(List S38)→(List Int)→(List S67)→Option (List S67)
 | 0,_,_,_,_,_,_,_,_,_=>none
 | k+1,l1,x121,x122,x123,l0,l2,c3_0,c3_1,c3_2=>if x123<x122 then (if 0≤x123 then (if x123<(x121.length:Int) then (if 0≤rd x121 x123 then (if rd x121 x123<(l1.length:Int) then ((QF.f k l1 (rd x121 x123)).bind fun t10=>((Qq.f k c3_1 t10).bind fun t11=>((QS.f k c3_0 t11).bind fun t12=>(Qa.l5 k l1 (rd x121 x123) t10 x121 x122 x123 t12 (t12.length:Int) 0 l0 l2 c3_0 c3_1 c3_2 3 [] ((Qac l1 (rd x121 x123)).f0) 0 0)))) else none) else none) else none) else none) else (some c3_2)
def Qa.l5:Nat→(List S38)→Int→Int→(List Int)→Int→Int→(List Int)→Int→Int→(List S38)→(List S40)→(List S38)→(List Int)→(List S67)→Int→(List Int)→Int→Int→Int→Option (List S67)
 | 0,_,_,_,_,_,_,_,_,_,_,_,_,_,_,_,_,_,_,_=>none
 | k+1,l1,x17,x19,x121,x122,x123,x146,x147,x148,l0,l2,c3_0,c3_1,c3_2,c4_0,c4_1,c4_2,c4_3,c4_4=>if x148<x147 then (if 0≤x148 then (if x148<(x146.length:Int) then (if 0≤rd x146 x148 then (if rd x146 x148<(c3_1.length:Int) then (if (rd c3_1 (rd x146 x148))<x17 then (Qa.l5 k l1 x17 x19 x121 x122 x123 x146 x147 (wrap64 (x148+1)) l0 l2 c3_0 c3_1 c3_2 c4_0 c4_1 c4_2 (wrap64 (c4_3+1)) c4_4) else ((Qbs.f k l1 x17 (rd c3_1 (rd x146 x148))).bind fun t13=>(if t13=true then (Qa.l5 k l1 x17 x19 x121 x122 x123 x146 x147 (wrap64 (x148+1)) l0 l2 c3_0 c3_1 c3_2 c4_0 c4_1 c4_2 c4_3 (wrap64 (c4_4+1))) else (Qa.l5 k l1 x17 x19 x121 x122 x123 x146 x147 (wrap64 (x148+1)) l0 l2 c3_0 c3_1 c3_2 c4_0 c4_1 c4_2 c4_3 c4_4)))) else none) else none) else none) else none) else ((Qai.f k c3_0 c3_1 c3_2 x19 c4_0 c4_1 c4_2 c4_3 c4_4 x17).bind fun bt14=>(Qa.l4 k l1 x121 x122 (wrap64 (x123+1)) l0 l2 bt14.1 bt14.2.1 bt14.2.2))
end
def Qa.f (k:Nat) (l0:List S38) (l1:List S38) (l2:List S40):Option (List S67):=(Qt.f k l0 l1 l2).bind fun t1=>(if t1=true then ((QaE.f l2).bind fun t2=>(if t2=true then ((Qz.f l0).bind fun t3=>(Qa.l0 k l0 l1 l2 (l0.length:Int) 0 t3 [] ([]:List S67))) else (some ([]:List S67)))) else (some ([]:List S67)))
def Qa.P0 (k:Nat):Prop:=∀ (l0:List S38) (l1:List S38) (l2:List S40) (x39:Int) (x40:Int) (c3_0:List S38) (c3_1:List Int) (c3_2:List S67) (r:(List S67)),Qa.l0 k l0 l1 l2 x39 x40 c3_0 c3_1 c3_2=some r→∀ st,canon 3 [0,1,2,7,39,40] st=⟨Qav [(0, .slc 0 [] 0 2 0 l0.length),(1, .slc 1 [] 0 2 0 l1.length),(2, .slc 2 [] 0 2 0 l2.length),(7, .ptr 3 [] 0 0 0),(39, .i .i64 x39),(40, .i .i64 x40)],rsL [(0,some ⟨false,2,0,(l0.map e38)⟩),(1,some ⟨false,2,0,(l1.map e38)⟩),(2,some ⟨false,2,0,(l2.map e40)⟩),(3,some ⟨true,3,0,[[.deep false false 2 (c3_0.map e38), .deep false false 1 (c3_1.map eI), .deep false false 5 (c3_2.map (e67 false))]]⟩)],4⟩→W env Qa.c1 st (Qb 0 (Qs env Qa.c0 (Qf [.t 6] [false,false,false] ([.deep false false 5 (r.map (e67 false))],[none,none,none]))))
def Qa.P1 (k:Nat):Prop:=∀ (l0:List S38) (l1:List S38) (l2:List S40) (x54:List S40) (x55:Int) (x56:Int) (c3_0:List S38) (c3_1:List Int) (c3_2:List S67) (r:(List S67)),l2=x54→Qa.l1 k l0 l1 l2 x54 x55 x56 c3_0 c3_1 c3_2=some r→∀ st,canon 3 [0,1,2,7,54,55,56] st=⟨Qav [(0, .slc 0 [] 0 2 0 l0.length),(1, .slc 1 [] 0 2 0 l1.length),(2, .slc 2 [] 0 2 0 l2.length),(7, .ptr 3 [] 0 0 0),(54, .slc 2 [] 0 2 0 l2.length),(55, .i .i64 x55),(56, .i .i64 x56)],rsL [(0,some ⟨false,2,0,(l0.map e38)⟩),(1,some ⟨false,2,0,(l1.map e38)⟩),(2,some ⟨false,2,0,(l2.map e40)⟩),(3,some ⟨true,3,0,[[.deep false false 2 (c3_0.map e38), .deep false false 1 (c3_1.map eI), .deep false false 5 (c3_2.map (e67 false))]]⟩)],4⟩→W env Qa.c3 st (Qb 2 (Qs env Qa.c2 (Qf [.t 6] [false,false,false] ([.deep false false 5 (r.map (e67 false))],[none,none,none]))))
def Qa.P2 (k:Nat):Prop:=∀ (l1:List S38) (l2:List S40) (x12:List Int) (x85:List Int) (x86:Int) (x87:Int) (l0:List S38) (c3_0:List S38) (c3_1:List Int) (c3_2:List S67) (r:(List S67)),Qa.l2 k l1 l2 x12 x85 x86 x87 l0 c3_0 c3_1 c3_2=some r→∀ st,canon 3 [1,2,7,12,85,86,87] st=⟨Qav [(1, .slc 1 [] 0 2 0 l1.length),(2, .slc 2 [] 0 2 0 l2.length),(7, .ptr 3 [] 0 0 0),(12, .slc 4 [] 0 1 0 x12.length),(85, .slc 5 [] 0 1 0 x85.length),(86, .i .i64 x86),(87, .i .i64 x87)],rsL [(0,some ⟨false,2,0,(l0.map e38)⟩),(1,some ⟨false,2,0,(l1.map e38)⟩),(2,some ⟨false,2,0,(l2.map e40)⟩),(3,some ⟨true,3,0,[[.deep false false 2 (c3_0.map e38), .deep false false 1 (c3_1.map eI), .deep false false 5 (c3_2.map (e67 false))]]⟩),(4,some ⟨true,1,0,(x12.map eI)⟩),(5,some ⟨true,1,0,(x85.map eI)⟩)],6⟩→W env Qa.c5 st (Qb 4 (Qs env Qa.c4 (Qf [.t 6] [false,false,false] ([.deep false false 5 (r.map (e67 false))],[none,none,none]))))
def Qa.P3 (k:Nat):Prop:=∀ (l1:List S38) (l2:List S40) (x103:Int) (x104:Int) (l0:List S38) (c3_0:List S38) (c3_1:List Int) (c3_2:List S67) (r:(List S67)),Qa.l3 k l1 l2 x103 x104 l0 c3_0 c3_1 c3_2=some r→∀ st,canon 3 [1,2,7,103,104] st=⟨Qav [(1, .slc 1 [] 0 2 0 l1.length),(2, .slc 2 [] 0 2 0 l2.length),(7, .ptr 3 [] 0 0 0),(103, .i .i64 x103),(104, .i .i64 x104)],rsL [(0,some ⟨false,2,0,(l0.map e38)⟩),(1,some ⟨false,2,0,(l1.map e38)⟩),(2,some ⟨false,2,0,(l2.map e40)⟩),(3,some ⟨true,3,0,[[.deep false false 2 (c3_0.map e38), .deep false false 1 (c3_1.map eI), .deep false false 5 (c3_2.map (e67 false))]]⟩)],4⟩→W env Qa.c7 st (Qb 6 (Qs env Qa.c6 (Qf [.t 6] [false,false,false] ([.deep false false 5 (r.map (e67 false))],[none,none,none]))))
def Qa.P4 (k:Nat):Prop:=∀ (l1:List S38) (x121:List Int) (x122:Int) (x123:Int) (l0:List S38) (l2:List S40) (c3_0:List S38) (c3_1:List Int) (c3_2:List S67) (r:(List S67)),Qa.l4 k l1 x121 x122 x123 l0 l2 c3_0 c3_1 c3_2=some r→∀ st,canon 3 [1,7,121,122,123] st=⟨Qav [(1, .slc 1 [] 0 2 0 l1.length),(7, .ptr 3 [] 0 0 0),(121, .slc 4 [] 0 1 0 x121.length),(122, .i .i64 x122),(123, .i .i64 x123)],rsL [(0,some ⟨false,2,0,(l0.map e38)⟩),(1,some ⟨false,2,0,(l1.map e38)⟩),(2,some ⟨false,2,0,(l2.map e40)⟩),(3,some ⟨true,3,0,[[.deep false false 2 (c3_0.map e38), .deep false false 1 (c3_1.map eI), .deep false false 5 (c3_2.map (e67 false))]]⟩),(4,some ⟨true,1,0,(x121.map eI)⟩)],5⟩→W env Qa.c9 st (Qb 8 (Qs env Qa.c8 (Qf [.t 6] [false,false,false] ([.deep false false 5 (r.map (e67 false))],[none,none,none]))))
def Qa.P5 (k:Nat):Prop:=∀ (l1:List S38) (x17:Int) (x19:Int) (x121:List Int) (x122:Int) (x123:Int) (x146:List Int) (x147:Int) (x148:Int) (l0:List S38) (l2:List S40) (c3_0:List S38) (c3_1:List Int) (c3_2:List S67) (c4_0:Int) (c4_1:List Int) (c4_2:Int) (c4_3:Int) (c4_4:Int) (r:(List S67)),Qa.l5 k l1 x17 x19 x121 x122 x123 x146 x147 x148 l0 l2 c3_0 c3_1 c3_2 c4_0 c4_1 c4_2 c4_3 c4_4=some r→∀ st,canon 3 [1,7,17,18,19,121,122,123,146,147,148] st=⟨Qav [(1, .slc 1 [] 0 2 0 l1.length),(7, .ptr 3 [] 0 0 0),(17, .i .i64 x17),(18, .ptr 4 [] 0 0 0),(19, .i .i64 x19),(121, .slc 5 [] 0 1 0 x121.length),(122, .i .i64 x122),(123, .i .i64 x123),(146, .slc 6 [] 0 1 0 x146.length),(147, .i .i64 x147),(148, .i .i64 x148)],rsL [(0,some ⟨false,2,0,(l0.map e38)⟩),(1,some ⟨false,2,0,(l1.map e38)⟩),(2,some ⟨false,2,0,(l2.map e40)⟩),(3,some ⟨true,3,0,[[.deep false false 2 (c3_0.map e38), .deep false false 1 (c3_1.map eI), .deep false false 5 (c3_2.map (e67 false))]]⟩),(4,some ⟨true,5,0,[[.i .i64 c4_0, .deep false false 1 (c4_1.map eI), .i .i64 c4_2, .i .i64 c4_3, .i .i64 c4_4]]⟩),(5,some ⟨true,1,0,(x121.map eI)⟩),(6,some ⟨true,1,0,(x146.map eI)⟩)],7⟩→W env Qa.c12 st (Qb 10 (Qs env Qa.c11 (Qb 9 (Qs env Qa.c10 (Ql env Qa.c9 (Qb 8 (Qs env Qa.c8 (Qf [.t 6] [false,false,false] ([.deep false false 5 (r.map (e67 false))],[none,none,none])))))))))
theorem Qa.s0 (k:Nat) (ih:Qa.P0 k∧Qa.P1 k∧Qa.P2 k∧Qa.P3 k∧Qa.P4 k∧Qa.P5 k):Qa.P0 (k+1):=by
 intro l0 l1 l2 x39 x40 c3_0 c3_1 c3_2 r H st hst
 rw [Qa.l0] at H
 rw [Qat (show Qa.c1=C.loop 3 [0,1,2,7,39,40] Qa.d1 from rfl),hst]
 unfold Qa.d1
 try simp only [TN,simprocAttr, *, Qa.c0,Qa.c2,Qa.c4,Qa.c6,Qa.c8,Qa.c10,Qa.c11]
 rcases Qad H with ⟨h1,H⟩|⟨h1,H⟩
 ·skip
  obtain ⟨h2,H⟩:=i1 H
  have h3:(c3_1.length+1) * 8≤140737488355328:=by omega
  try simp only [TN,simprocAttr, *, Qa.c0,Qa.c2,Qa.c4,Qa.c6,Qa.c8,Qa.c10,Qa.c11]
  refine ih.1 _ _ _ _ _ _ _ _ _ H _ ?_
  first|(rw [Qc];done)|(rw [Qc];rfl)|(rw [Qc];simp only [LL];rfl)
 ·skip
  try simp only [TN,simprocAttr, *, Qa.c0,Qa.c2,Qa.c4,Qa.c6,Qa.c8,Qa.c10,Qa.c11]
  refine ih.2.1 _ _ _ _ _ _ _ _ _ _ rfl H _ ?_
  first|(rw [Qc];done)|(rw [Qc];rfl)|(rw [Qc];simp only [LL];rfl)
theorem Qa.s1 (k:Nat) (ih:Qa.P0 k∧Qa.P1 k∧Qa.P2 k∧Qa.P3 k∧Qa.P4 k∧Qa.P5 k):Qa.P1 (k+1):=by
 intro l0 l1 l2 x54 x55 x56 c3_0 c3_1 c3_2 r a0 H st hst
 subst a0
 rw [Qa.l1] at H
 rw [Qat (show Qa.c3=C.loop 3 [0,1,2,7,54,55,56] Qa.d3 from rfl),hst]
 unfold Qa.d3
 try simp only [TN,simprocAttr, *, Qa.c0,Qa.c2,Qa.c4,Qa.c6,Qa.c8,Qa.c10,Qa.c11]
 rcases Qad H with ⟨h1,H⟩|⟨h1,H⟩
 ·skip
  obtain ⟨h2,h3,h4,h5,H⟩:=i4 H
  obtain ⟨h6,h7,H⟩:=i2 H
  try simp only [TN,simprocAttr, *, Qa.c0,Qa.c2,Qa.c4,Qa.c6,Qa.c8,Qa.c10,Qa.c11]
  rcases ioq H with ⟨h8,H⟩|⟨h8,H⟩
  ·skip
   try simp only [TN,simprocAttr, *, Qa.c0,Qa.c2,Qa.c4,Qa.c6,Qa.c8,Qa.c10,Qa.c11]
   refine ih.2.1 _ _ _ _ _ _ _ _ _ _ rfl H _ ?_
   first|(rw [Qc];done)|(rw [Qc];rfl)|(rw [Qc];simp only [LL];rfl)
  ·skip
   obtain ⟨bt4,e9,H⟩:=Qp H
   have e9:=Qai.link e9
   simp only [List.map_nil] at e9
   try simp only [TN,simprocAttr, *, Qa.c0,Qa.c2,Qa.c4,Qa.c6,Qa.c8,Qa.c10,Qa.c11]
   refine ih.2.1 _ _ _ _ _ _ _ _ _ _ rfl H _ ?_
   first|(rw [Qc];done)|(rw [Qc];rfl)|(rw [Qc];simp only [LL];rfl)
 ·skip
  obtain ⟨t5,e10,H⟩:=Qp H
  have e10:=QO.link e10
  obtain ⟨t6,e11,H⟩:=Qp H
  have e11:=QI.link e11
  try simp only [TN,simprocAttr, *, Qa.c0,Qa.c2,Qa.c4,Qa.c6,Qa.c8,Qa.c10,Qa.c11]
  refine ih.2.2.1 _ _ _ _ _ _ _ _ _ _ _ H _ ?_
  first|(rw [Qc];done)|(rw [Qc];rfl)|(rw [Qc];simp only [LL];rfl)
theorem Qa.s2 (k:Nat) (ih:Qa.P0 k∧Qa.P1 k∧Qa.P2 k∧Qa.P3 k∧Qa.P4 k∧Qa.P5 k):Qa.P2 (k+1):=by
 intro l1 l2 x12 x85 x86 x87 l0 c3_0 c3_1 c3_2 r H st hst
 rw [Qa.l2] at H
 rw [Qat (show Qa.c5=C.loop 3 [1,2,7,12,85,86,87] Qa.d5 from rfl),hst]
 unfold Qa.d5
 try simp only [TN,simprocAttr, *, Qa.c0,Qa.c2,Qa.c4,Qa.c6,Qa.c8,Qa.c10,Qa.c11]
 rcases Qad H with ⟨h1,H⟩|⟨h1,H⟩
 ·skip
  obtain ⟨h2,h3,H⟩:=i2 H
  obtain ⟨t7,e4,H⟩:=Qp H
  have e4:=Q9.link e4
  try simp only [TN,simprocAttr, *, Qa.c0,Qa.c2,Qa.c4,Qa.c6,Qa.c8,Qa.c10,Qa.c11]
  rcases QaN H with ⟨h5,H⟩|⟨h5,H⟩
  ·skip
   obtain ⟨bt8,e6,H⟩:=Qp H
   have e6:=Qai.link e6
   simp only [List.map_nil] at e6
   try simp only [TN,simprocAttr, *, Qa.c0,Qa.c2,Qa.c4,Qa.c6,Qa.c8,Qa.c10,Qa.c11]
   refine ih.2.2.1 _ _ _ _ _ _ _ _ _ _ _ H _ ?_
   first|(rw [Qc];done)|(rw [Qc];rfl)|(rw [Qc];simp only [LL];rfl)
  ·skip
   try simp only [TN,simprocAttr, *, Qa.c0,Qa.c2,Qa.c4,Qa.c6,Qa.c8,Qa.c10,Qa.c11]
   refine ih.2.2.1 _ _ _ _ _ _ _ _ _ _ _ H _ ?_
   first|(rw [Qc];done)|(rw [Qc];rfl)|(rw [Qc];simp only [LL];rfl)
 ·skip
  try simp only [TN,simprocAttr, *, Qa.c0,Qa.c2,Qa.c4,Qa.c6,Qa.c8,Qa.c10,Qa.c11]
  refine ih.2.2.2.1 _ _ _ _ _ _ _ _ _ H _ ?_
  first|(rw [Qc];done)|(rw [Qc];rfl)|(rw [Qc];simp only [LL];rfl)
theorem Qa.s3 (k:Nat) (ih:Qa.P0 k∧Qa.P1 k∧Qa.P2 k∧Qa.P3 k∧Qa.P4 k∧Qa.P5 k):Qa.P3 (k+1):=by
 intro l1 l2 x103 x104 l0 c3_0 c3_1 c3_2 r H st hst
 rw [Qa.l3] at H
 rw [Qat (show Qa.c7=C.loop 3 [1,2,7,103,104] Qa.d7 from rfl),hst]
 unfold Qa.d7
 try simp only [TN,simprocAttr, *, Qa.c0,Qa.c2,Qa.c4,Qa.c6,Qa.c8,Qa.c10,Qa.c11]
 rcases Qad H with ⟨h1,H⟩|⟨h1,H⟩
 ·skip
  obtain ⟨h2,h3,h4,H⟩:=i3 H
  try simp only [TN,simprocAttr, *, Qa.c0,Qa.c2,Qa.c4,Qa.c6,Qa.c8,Qa.c10,Qa.c11]
  refine ih.2.2.2.1 _ _ _ _ _ _ _ _ _ H _ ?_
  first|(rw [Qc];done)|(rw [Qc];rfl)|(rw [Qc];simp only [LL];rfl)
 ·skip
  obtain ⟨t9,e5,H⟩:=Qp H
  have e5:=Qa3.link e5
  try simp only [TN,simprocAttr, *, Qa.c0,Qa.c2,Qa.c4,Qa.c6,Qa.c8,Qa.c10,Qa.c11]
  refine ih.2.2.2.2.1 _ _ _ _ _ _ _ _ _ _ H _ ?_
  first|(rw [Qc];done)|(rw [Qc];rfl)|(rw [Qc];simp only [LL];rfl)
theorem Qa.s4 (k:Nat) (ih:Qa.P0 k∧Qa.P1 k∧Qa.P2 k∧Qa.P3 k∧Qa.P4 k∧Qa.P5 k):Qa.P4 (k+1):=by
 intro l1 x121 x122 x123 l0 l2 c3_0 c3_1 c3_2 r H st hst
 rw [Qa.l4] at H
 rw [Qat (show Qa.c9=C.loop 3 [1,7,121,122,123] Qa.d9 from rfl),hst]
 unfold Qa.d9
 try simp only [TN,simprocAttr, *, Qa.c0,Qa.c2,Qa.c4,Qa.c6,Qa.c8,Qa.c10,Qa.c11]
 rcases Qad H with ⟨h1,H⟩|⟨h1,H⟩
 ·skip
  obtain ⟨h2,h3,h4,h5,H⟩:=i4 H
  obtain ⟨t10,e6,H⟩:=Qp H
  have e6:=QF.link e6
  obtain ⟨t11,e7,H⟩:=Qp H
  have e7:=Qq.link e7
  obtain ⟨t12,e8,H⟩:=Qp H
  have e8:=QS.link e8
  try simp only [TN,simprocAttr, *, Qa.c0,Qa.c2,Qa.c4,Qa.c6,Qa.c8,Qa.c10,Qa.c11]
  refine ih.2.2.2.2.2 _ _ _ _ _ _ _ _ _ _ _ _ _ _ _ _ _ _ _ _ H _ ?_
  first|(rw [Qc];done)|(rw [Qc];rfl)|(rw [Qc];simp only [LL];rfl)
 ·skip
  injection H with H;subst H
  try simp only [TN,simprocAttr, *, Qa.c0,Qa.c2,Qa.c4,Qa.c6,Qa.c8,Qa.c10,Qa.c11]
  try rfl
theorem Qa.s5 (k:Nat) (ih:Qa.P0 k∧Qa.P1 k∧Qa.P2 k∧Qa.P3 k∧Qa.P4 k∧Qa.P5 k):Qa.P5 (k+1):=by
 intro l1 x17 x19 x121 x122 x123 x146 x147 x148 l0 l2 c3_0 c3_1 c3_2 c4_0 c4_1 c4_2 c4_3 c4_4 r H st hst
 rw [Qa.l5] at H
 rw [Qat (show Qa.c12=C.loop 3 [1,7,17,18,19,121,122,123,146,147,148] Qa.d12 from rfl),hst]
 unfold Qa.d12
 try simp only [TN,simprocAttr, *, Qa.c0,Qa.c2,Qa.c4,Qa.c6,Qa.c8,Qa.c10,Qa.c11]
 rcases Qad H with ⟨h1,H⟩|⟨h1,H⟩
 ·skip
  obtain ⟨h2,h3,h4,h5,H⟩:=i4 H
  try simp only [TN,simprocAttr, *, Qa.c0,Qa.c2,Qa.c4,Qa.c6,Qa.c8,Qa.c10,Qa.c11]
  rcases Qad H with ⟨h6,H⟩|⟨h6,H⟩
  ·skip
   try simp only [TN,simprocAttr, *, Qa.c0,Qa.c2,Qa.c4,Qa.c6,Qa.c8,Qa.c10,Qa.c11]
   refine ih.2.2.2.2.2 _ _ _ _ _ _ _ _ _ _ _ _ _ _ _ _ _ _ _ _ H _ ?_
   first|(rw [Qc];done)|(rw [Qc];rfl)|(rw [Qc];simp only [LL];rfl)
  ·skip
   obtain ⟨t13,e7,H⟩:=Qp H
   have e7:=Qbs.link e7
   try simp only [TN,simprocAttr, *, Qa.c0,Qa.c2,Qa.c4,Qa.c6,Qa.c8,Qa.c10,Qa.c11]
   rcases QaN H with ⟨h8,H⟩|⟨h8,H⟩
   ·skip
    try simp only [TN,simprocAttr, *, Qa.c0,Qa.c2,Qa.c4,Qa.c6,Qa.c8,Qa.c10,Qa.c11]
    refine ih.2.2.2.2.2 _ _ _ _ _ _ _ _ _ _ _ _ _ _ _ _ _ _ _ _ H _ ?_
    first|(rw [Qc];done)|(rw [Qc];rfl)|(rw [Qc];simp only [LL];rfl)
   ·skip
    try simp only [TN,simprocAttr, *, Qa.c0,Qa.c2,Qa.c4,Qa.c6,Qa.c8,Qa.c10,Qa.c11]
    refine ih.2.2.2.2.2 _ _ _ _ _ _ _ _ _ _ _ _ _ _ _ _ _ _ _ _ H _ ?_
    first|(rw [Qc];done)|(rw [Qc];rfl)|(rw [Qc];simp only [LL];rfl)
 ·skip
  obtain ⟨bt14,e9,H⟩:=Qp H
  have e9:=Qai.link e9
  try simp only [TN,simprocAttr, *, Qa.c0,Qa.c2,Qa.c4,Qa.c6,Qa.c8,Qa.c10,Qa.c11]
  refine ih.2.2.2.2.1 _ _ _ _ _ _ _ _ _ _ H _ ?_
  first|(rw [Qc];done)|(rw [Qc];rfl)|(rw [Qc];simp only [LL];rfl)
theorem Qa.w:∀ k,Qa.P0 k∧Qa.P1 k∧Qa.P2 k∧Qa.P3 k∧Qa.P4 k∧Qa.P5 k:=by
 intro k
 induction k with
 | zero=>exact ⟨(by intro l0 l1 l2 x39 x40 c3_0 c3_1 c3_2 r H;cases (show (none:Option (List S67))=some r from H)),(by intro l0 l1 l2 x54 x55 x56 c3_0 c3_1 c3_2 r _ H;cases (show (none:Option (List S67))=some r from H)),(by intro l1 l2 x12 x85 x86 x87 l0 c3_0 c3_1 c3_2 r H;cases (show (none:Option (List S67))=some r from H)),(by intro l1 l2 x103 x104 l0 c3_0 c3_1 c3_2 r H;cases (show (none:Option (List S67))=some r from H)),(by intro l1 x121 x122 x123 l0 l2 c3_0 c3_1 c3_2 r H;cases (show (none:Option (List S67))=some r from H)),(by intro l1 x17 x19 x121 x122 x123 x146 x147 x148 l0 l2 c3_0 c3_1 c3_2 c4_0 c4_1 c4_2 c4_3 c4_4 r H;cases (show (none:Option (List S67))=some r from H))⟩
 | succ k ih=>exact ⟨(Qa.s0 k ih),(Qa.s1 k ih),(Qa.s2 k ih),(Qa.s3 k ih),(Qa.s4 k ih),(Qa.s5 k ih)⟩
theorem Qa.link {k:Nat} {l0:List S38} {l1:List S38} {l2:List S40} {r:(List S67)} (H:Qa.f k l0 l1 l2=some r):Qao env 7 [.deep false true 2 (l0.map e38), .deep false true 2 (l1.map e38), .deep false true 2 (l2.map e40)]=some ([.deep false false 5 (r.map (e67 false))],[none,none,none]):=by
 unfold Qa.f at H
 refine QM (F:=Qa.F) (tm:=Qav [(0, .slc 0 [] 0 2 0 l0.length),(1, .slc 1 [] 0 2 0 l1.length),(2, .slc 2 [] 0 2 0 l2.length)]) (rs:=rsL [(0,some ⟨false,2,0,(l0.map e38)⟩),(1,some ⟨false,2,0,(l1.map e38)⟩),(2,some ⟨false,2,0,(l2.map e40)⟩)]) (nx:=3) (ow:=[false,false,false]) rfl (by rfl) (by simp only [SN]) (by simp only [SN]) (by decide) ?_
 show W env Qa.B _ (Qf [.t 6] [false,false,false] _)
 unfold Qa.B
 obtain ⟨t1,e1,H⟩:=Qp H
 have e1:=Qt.link e1
 try simp only [TN,simprocAttr, *, Qa.c0,Qa.c2,Qa.c4,Qa.c6,Qa.c8,Qa.c10,Qa.c11]
 rcases QaN H with ⟨h2,H⟩|⟨h2,H⟩
 ·skip
  obtain ⟨t2,e3,H⟩:=Qp H
  have e3:=QaE.link e3
  try simp only [TN,simprocAttr, *, Qa.c0,Qa.c2,Qa.c4,Qa.c6,Qa.c8,Qa.c10,Qa.c11]
  rcases QaN H with ⟨h4,H⟩|⟨h4,H⟩
  ·skip
   obtain ⟨t3,e5,H⟩:=Qp H
   have e5:=Qz.link e5
   try simp only [TN,simprocAttr, *, Qa.c0,Qa.c2,Qa.c4,Qa.c6,Qa.c8,Qa.c10,Qa.c11]
   refine (Qa.w k).1 _ _ _ _ _ _ _ _ _ H _ ?_
   first|(rw [Qc];done)|(rw [Qc];rfl)|(rw [Qc];simp only [LL];rfl)
  ·skip
   injection H with H;subst H
   try simp only [TN,simprocAttr, *, Qa.c0,Qa.c2,Qa.c4,Qa.c6,Qa.c8,Qa.c10,Qa.c11]
   try rfl
 ·skip
  injection H with H;subst H
  try simp only [TN,simprocAttr, *, Qa.c0,Qa.c2,Qa.c4,Qa.c6,Qa.c8,Qa.c10,Qa.c11]
  try rfl
end Go.Proofs.YtallpjhkmcgpoaaGreat.P
end
section
namespace Go.Proofs.YtallpjhkmcgpoaaGreat.P
open Go Go.RowKit Go.Proofs.YtallpjhkmcgpoaaGreat.V
def QaC.f (l0:List S40):Option Bool:=if (l0.length:Int) > 0 then (if 0<(l0.length:Int) then (some (decide ((Qah l0 0).f0=0) && decide ((Qah l0 0).f1=0))) else none) else (some false)
theorem QaC.link {l0:List S40} {r:Bool} (H:QaC.f l0=some r):Qao env 9 [.deep false true 2 (l0.map e40)]=some ([.b r],[none]):=by
 unfold QaC.f at H
 refine QM (F:=QaC.F) (tm:=Qav [(0, .slc 0 [] 0 2 0 l0.length)]) (rs:=rsL [(0,some ⟨false,2,0,(l0.map e40)⟩)]) (nx:=1) (ow:=[false]) rfl (by rfl) (by simp only [SN]) (by simp only [SN]) (by decide) ?_
 show W env QaC.B _ (Qf [.t 2] [false] _)
 unfold QaC.B
 try simp only [TN,simprocAttr, *]
 rcases Qad H with ⟨h1,H⟩|⟨h1,H⟩
 ·skip
  obtain ⟨h2,H⟩:=i1 H
  injection H with H;subst H
  try simp only [TN,simprocAttr, *]
  try rfl
 ·skip
  injection H with H;subst H
  try simp only [TN,simprocAttr, *]
  try rfl
end Go.Proofs.YtallpjhkmcgpoaaGreat.P
end
section
namespace Go.Proofs.YtallpjhkmcgpoaaGreat.P
open Go Go.RowKit Go.Proofs.YtallpjhkmcgpoaaGreat.V
def QR.l0:Nat→(List S67)→(List S38)→(List S67)→Int→Int→(List S38)→Option ((List S38)×Int×Int)
 | 0,_,_,_,_,_,_=>none
 | k+1,l1,x7,x18,x19,x20,l0=>if x20<x19 then (if 0≤x20 then (if x20<(l1.length:Int) then ((Qo.f k x7 ((QaU l1 x20).f0) ((QaU l1 x20).f1) ((QaU l1 x20).f2) ((QaU l1 x20).f3) ((QaU l1 x20).f4)).bind fun bt3=>(if bt3.2=0 then (QR.l0 k l1 bt3.1 l1 x19 (wrap64 (x20+1)) l0) else (some (x7,x20,bt3.2)))) else none) else none) else (some (x7,(l1.length:Int),0))
def QR.f (k:Nat) (l0:List S38) (l1:List S67):Option ((List S38)×Int×Int):=(QE.f k l0).bind fun t1=>(if t1=true then ((Qz.f l0).bind fun t2=>(QR.l0 k l1 t2 l1 (l1.length:Int) 0 l0)) else (some (([]:List S38),0,2)))
def QR.P0 (k:Nat):Prop:=∀ (l1:List S67) (x7:List S38) (x18:List S67) (x19:Int) (x20:Int) (l0:List S38) (r:(List S38)×Int×Int),l1=x18→QR.l0 k l1 x7 x18 x19 x20 l0=some r→∀ st,canon 2 [1,7,18,19,20] st=⟨Qav [(1, .slc 1 [] 0 5 0 l1.length),(7, .slc 2 [] 0 2 0 x7.length),(18, .slc 1 [] 0 5 0 l1.length),(19, .i .i64 x19),(20, .i .i64 x20)],rsL [(0,some ⟨false,2,0,(l0.map e38)⟩),(1,some ⟨false,5,0,(l1.map (e67 false))⟩),(2,some ⟨true,2,0,(x7.map e38)⟩)],3⟩→W env QR.c1 st (Qb 0 (Qs env QR.c0 (Qf [.t 4, .t 5, .t 6] [false,false] ([.deep false false 2 (r.1.map e38), .i .i64 r.2.1, .i .i64 r.2.2],[none,none]))))
theorem QR.s0 (k:Nat) (ih:QR.P0 k):QR.P0 (k+1):=by
 intro l1 x7 x18 x19 x20 l0 r a0 H st hst
 subst a0
 rw [QR.l0] at H
 rw [Qat (show QR.c1=C.loop 2 [1,7,18,19,20] QR.d1 from rfl),hst]
 unfold QR.d1
 try simp only [TN,simprocAttr, *, QR.c0]
 rcases Qad H with ⟨h1,H⟩|⟨h1,H⟩
 ·skip
  obtain ⟨h2,h3,H⟩:=i2 H
  obtain ⟨bt3,e4,H⟩:=Qp H
  have e4:=Qo.link e4
  try simp only [TN,simprocAttr, *, QR.c0]
  rcases ioq H with ⟨h5,H⟩|⟨h5,H⟩
  ·skip
   try simp only [TN,simprocAttr, *, QR.c0]
   refine ih _ _ _ _ _ _ _ rfl H _ ?_
   first|(rw [Qc];done)|(rw [Qc];rfl)|(rw [Qc];simp only [LL];rfl)
  ·skip
   injection H with H;subst H
   try simp only [TN,simprocAttr, *, QR.c0]
   try rfl
 ·skip
  injection H with H;subst H
  try simp only [TN,simprocAttr, *, QR.c0]
  try rfl
theorem QR.w:∀ k,QR.P0 k:=by
 intro k
 induction k with
 | zero=>exact by intro l1 x7 x18 x19 x20 l0 r _ H;cases (show (none:Option ((List S38)×Int×Int))=some r from H)
 | succ k ih=>exact QR.s0 k ih
theorem QR.link {k:Nat} {l0:List S38} {l1:List S67} {r:(List S38)×Int×Int} (H:QR.f k l0 l1=some r):Qao env 10 [.deep false true 2 (l0.map e38), .deep false true 5 (l1.map (e67 false))]=some ([.deep false false 2 (r.1.map e38), .i .i64 r.2.1, .i .i64 r.2.2],[none,none]):=by
 unfold QR.f at H
 refine QM (F:=QR.F) (tm:=Qav [(0, .slc 0 [] 0 2 0 l0.length),(1, .slc 1 [] 0 5 0 l1.length)]) (rs:=rsL [(0,some ⟨false,2,0,(l0.map e38)⟩),(1,some ⟨false,5,0,(l1.map (e67 false))⟩)]) (nx:=2) (ow:=[false,false]) rfl (by rfl) (by simp only [SN]) (by simp only [SN]) (by decide) ?_
 show W env QR.B _ (Qf [.t 4, .t 5, .t 6] [false,false] _)
 unfold QR.B
 obtain ⟨t1,e1,H⟩:=Qp H
 have e1:=QE.link e1
 try simp only [TN,simprocAttr, *, QR.c0]
 rcases QaN H with ⟨h2,H⟩|⟨h2,H⟩
 ·skip
  obtain ⟨t2,e3,H⟩:=Qp H
  have e3:=Qz.link e3
  try simp only [TN,simprocAttr, *, QR.c0]
  refine (QR.w k) _ _ _ _ _ _ _ rfl H _ ?_
  first|(rw [Qc];done)|(rw [Qc];rfl)|(rw [Qc];simp only [LL];rfl)
 ·skip
  injection H with H;subst H
  try simp only [TN,simprocAttr, *, QR.c0]
  try rfl
end Go.Proofs.YtallpjhkmcgpoaaGreat.P
end
section
namespace Go.Proofs.YtallpjhkmcgpoaaGreat.P
open Go Go.RowKit Go.Proofs.YtallpjhkmcgpoaaGreat.V
def QQ.l0:Nat→(List S38)→(List S38)→Int→Option Bool
 | 0,_,_,_=>none
 | k+1,l0,l1,x5=>if x5<(l0.length:Int) then (if 0≤x5 then (if x5<(l1.length:Int) then (if (decide ((Qac l0 x5).f0=(Qac l1 x5).f0) && decide ((Qac l0 x5).f1=(Qac l1 x5).f1))=true then (QQ.l0 k l0 l1 (wrap64 (x5+1))) else (some false)) else none) else none) else (some true)
def QQ.f (k:Nat) (l0:List S38) (l1:List S38):Option Bool:=if (l0.length:Int)=(l1.length:Int) then (QQ.l0 k l0 l1 0) else (some false)
def QQ.P0 (k:Nat):Prop:=∀ (l0:List S38) (l1:List S38) (x5:Int) (r:Bool),QQ.l0 k l0 l1 x5=some r→∀ st,canon 2 [0,1,5] st=⟨Qav [(0, .slc 0 [] 0 2 0 l0.length),(1, .slc 1 [] 0 2 0 l1.length),(5, .i .i64 x5)],rsL [(0,some ⟨false,2,0,(l0.map e38)⟩),(1,some ⟨false,2,0,(l1.map e38)⟩)],2⟩→W env QQ.c1 st (Qb 0 (Qs env QQ.c0 (Qf [.t 4] [false,false] ([.b r],[none,none]))))
theorem QQ.s0 (k:Nat) (ih:QQ.P0 k):QQ.P0 (k+1):=by
 intro l0 l1 x5 r H st hst
 rw [QQ.l0] at H
 rw [Qat (show QQ.c1=C.loop 2 [0,1,5] QQ.d1 from rfl),hst]
 unfold QQ.d1
 try simp only [TN,simprocAttr, *, QQ.c0]
 rcases Qad H with ⟨h1,H⟩|⟨h1,H⟩
 ·skip
  obtain ⟨h2,h3,H⟩:=i2 H
  try simp only [TN,simprocAttr, *, QQ.c0]
  rcases QaN H with ⟨h4,H⟩|⟨h4,H⟩
  ·skip
   try simp only [TN,simprocAttr, *, QQ.c0]
   refine ih _ _ _ _ H _ ?_
   first|(rw [Qc];done)|(rw [Qc];rfl)|(rw [Qc];simp only [LL];rfl)
  ·skip
   injection H with H;subst H
   try simp only [TN,simprocAttr, *, QQ.c0]
   try rfl
 ·skip
  injection H with H;subst H
  try simp only [TN,simprocAttr, *, QQ.c0]
  try rfl
theorem QQ.w:∀ k,QQ.P0 k:=by
 intro k
 induction k with
 | zero=>exact by intro l0 l1 x5 r H;cases (show (none:Option Bool)=some r from H)
 | succ k ih=>exact QQ.s0 k ih
theorem QQ.link {k:Nat} {l0:List S38} {l1:List S38} {r:Bool} (H:QQ.f k l0 l1=some r):Qao env 11 [.deep false true 2 (l0.map e38), .deep false true 2 (l1.map e38)]=some ([.b r],[none,none]):=by
 unfold QQ.f at H
 refine QM (F:=QQ.F) (tm:=Qav [(0, .slc 0 [] 0 2 0 l0.length),(1, .slc 1 [] 0 2 0 l1.length)]) (rs:=rsL [(0,some ⟨false,2,0,(l0.map e38)⟩),(1,some ⟨false,2,0,(l1.map e38)⟩)]) (nx:=2) (ow:=[false,false]) rfl (by rfl) (by simp only [SN]) (by simp only [SN]) (by decide) ?_
 show W env QQ.B _ (Qf [.t 4] [false,false] _)
 unfold QQ.B
 try simp only [TN,simprocAttr, *, QQ.c0]
 rcases ioq H with ⟨h1,H⟩|⟨h1,H⟩
 ·skip
  try simp only [TN,simprocAttr, *, QQ.c0]
  refine (QQ.w k) _ _ _ _ H _ ?_
  first|(rw [Qc];done)|(rw [Qc];rfl)|(rw [Qc];simp only [LL];rfl)
 ·skip
  injection H with H;subst H
  try simp only [TN,simprocAttr, *, QQ.c0]
  try rfl
end Go.Proofs.YtallpjhkmcgpoaaGreat.P
end
section
namespace Go.Proofs.YtallpjhkmcgpoaaGreat.P
open Go Go.RowKit Go.Proofs.YtallpjhkmcgpoaaGreat.V
def QZ.l0:Nat→(List Int)→Int→Option Bool
 | 0,_,_=>none
 | k+1,l0,x3=>if x3<(l0.length:Int) then (if 0≤x3 then ((Qaw.f (rd l0 x3) 0 24).bind fun t1=>(if t1=true then (QZ.l0 k l0 (wrap64 (x3+1))) else (some false))) else none) else (some (decide ((l0.length:Int)≤12)))
def QZ.f (k:Nat) (l0:List Int):Option Bool:=QZ.l0 k l0 0
def QZ.P0 (k:Nat):Prop:=∀ (l0:List Int) (x3:Int) (r:Bool),QZ.l0 k l0 x3=some r→∀ st,canon 1 [0,3] st=⟨Qav [(0, .slc 0 [] 0 1 0 l0.length),(3, .i .i64 x3)],rsL [(0,some ⟨false,1,0,(l0.map eI)⟩)],1⟩→W env QZ.c1 st (Qb 0 (Qs env QZ.c0 (Qf [.t 2] [false] ([.b r],[none]))))
theorem QZ.s0 (k:Nat) (ih:QZ.P0 k):QZ.P0 (k+1):=by
 intro l0 x3 r H st hst
 rw [QZ.l0] at H
 rw [Qat (show QZ.c1=C.loop 1 [0,3] QZ.d1 from rfl),hst]
 unfold QZ.d1
 try simp only [TN,simprocAttr, *, QZ.c0]
 rcases Qad H with ⟨h1,H⟩|⟨h1,H⟩
 ·skip
  obtain ⟨h2,H⟩:=i1 H
  obtain ⟨t1,e3,H⟩:=Qp H
  have e3:=Qaw.link e3
  try simp only [TN,simprocAttr, *, QZ.c0]
  rcases QaN H with ⟨h4,H⟩|⟨h4,H⟩
  ·skip
   try simp only [TN,simprocAttr, *, QZ.c0]
   refine ih _ _ _ H _ ?_
   first|(rw [Qc];done)|(rw [Qc];rfl)|(rw [Qc];simp only [LL];rfl)
  ·skip
   injection H with H;subst H
   try simp only [TN,simprocAttr, *, QZ.c0]
   try rfl
 ·skip
  injection H with H;subst H
  try simp only [TN,simprocAttr, *, QZ.c0]
  try rfl
theorem QZ.w:∀ k,QZ.P0 k:=by
 intro k
 induction k with
 | zero=>exact by intro l0 x3 r H;cases (show (none:Option Bool)=some r from H)
 | succ k ih=>exact QZ.s0 k ih
theorem QZ.link {k:Nat} {l0:List Int} {r:Bool} (H:QZ.f k l0=some r):Qao env 93 [.deep false true 1 (l0.map eI)]=some ([.b r],[none]):=by
 unfold QZ.f at H
 refine QM (F:=QZ.F) (tm:=Qav [(0, .slc 0 [] 0 1 0 l0.length)]) (rs:=rsL [(0,some ⟨false,1,0,(l0.map eI)⟩)]) (nx:=1) (ow:=[false]) rfl (by rfl) (by simp only [SN]) (by simp only [SN]) (by decide) ?_
 show W env QZ.B _ (Qf [.t 2] [false] _)
 unfold QZ.B
 try simp only [TN,simprocAttr, *, QZ.c0]
 refine (QZ.w k) _ _ _ H _ ?_
 first|(rw [Qc];done)|(rw [Qc];rfl)|(rw [Qc];simp only [LL];rfl)
end Go.Proofs.YtallpjhkmcgpoaaGreat.P
end
section
namespace Go.Proofs.YtallpjhkmcgpoaaGreat.P
open Go Go.RowKit Go.Proofs.YtallpjhkmcgpoaaGreat.V
def QbH.f (k:Nat) (a0_0:Int) (l0_1:List Int) (a0_2:Int) (a0_3:Int) (a0_4:Int):Option Bool:=(QZ.f k l0_1).bind fun t1=>(if t1=true then (if a0_0=1 then ((QaI.f a0_2).bind fun t2=>(if t2=true then (if a0_3=0 then (some (a0_4 == 0)) else (some false)) else (some false))) else (if a0_0=2 then (if a0_2=0 then (if a0_3=0 then (some (a0_4 == 0)) else (some false)) else (some false)) else (if a0_0=3 then ((QaI.f a0_2).bind fun t3=>(if t3=true then ((Qaw.f a0_3 0 24).bind fun t4=>(if t4=true then ((Qaw.f a0_4 0 24).bind fun t5=>(some t5)) else (some false))) else (some false))) else (some false)))) else (some false))
theorem QbH.link {k:Nat} {a0_0:Int} {l0_1:List Int} {a0_2:Int} {a0_3:Int} {a0_4:Int} {r:Bool} (H:QbH.f k a0_0 l0_1 a0_2 a0_3 a0_4=some r):Qao env 48 [.agg [.i .i64 a0_0, .deep false true 1 (l0_1.map eI), .i .i64 a0_2, .i .i64 a0_3, .i .i64 a0_4]]=some ([.b r],[none]):=by
 unfold QbH.f at H
 refine QM (F:=QbH.F) (tm:=Qav [(0, .agg [.i .i64 a0_0, .slc 0 [] 0 1 0 l0_1.length, .i .i64 a0_2, .i .i64 a0_3, .i .i64 a0_4])]) (rs:=rsL [(0,some ⟨false,1,0,(l0_1.map eI)⟩)]) (nx:=1) (ow:=[false]) rfl (by rfl) (by simp only [SN]) (by simp only [SN]) (by decide) ?_
 show W env QbH.B _ (Qf [.t 2] [false] _)
 unfold QbH.B
 obtain ⟨t1,e1,H⟩:=Qp H
 have e1:=QZ.link e1
 try simp only [TN,simprocAttr, *]
 rcases QaN H with ⟨h2,H⟩|⟨h2,H⟩
 ·skip
  try simp only [TN,simprocAttr, *]
  rcases ioq H with ⟨h3,H⟩|⟨h3,H⟩
  ·skip
   obtain ⟨t2,e4,H⟩:=Qp H
   have e4:=QaI.link e4
   try simp only [TN,simprocAttr, *]
   rcases QaN H with ⟨h5,H⟩|⟨h5,H⟩
   ·skip
    try simp only [TN,simprocAttr, *]
    rcases ioq H with ⟨h6,H⟩|⟨h6,H⟩
    ·skip
     injection H with H;subst H
     try simp only [TN,simprocAttr, *]
     try rfl
    ·skip
     injection H with H;subst H
     try simp only [TN,simprocAttr, *]
     try rfl
   ·skip
    injection H with H;subst H
    try simp only [TN,simprocAttr, *]
    try rfl
  ·skip
   try simp only [TN,simprocAttr, *]
   rcases ioq H with ⟨h7,H⟩|⟨h7,H⟩
   ·skip
    try simp only [TN,simprocAttr, *]
    rcases ioq H with ⟨h8,H⟩|⟨h8,H⟩
    ·skip
     try simp only [TN,simprocAttr, *]
     rcases ioq H with ⟨h9,H⟩|⟨h9,H⟩
     ·skip
      injection H with H;subst H
      try simp only [TN,simprocAttr, *]
      try rfl
     ·skip
      injection H with H;subst H
      try simp only [TN,simprocAttr, *]
      try rfl
    ·skip
     injection H with H;subst H
     try simp only [TN,simprocAttr, *]
     try rfl
   ·skip
    try simp only [TN,simprocAttr, *]
    rcases ioq H with ⟨h10,H⟩|⟨h10,H⟩
    ·skip
     obtain ⟨t3,e11,H⟩:=Qp H
     have e11:=QaI.link e11
     try simp only [TN,simprocAttr, *]
     rcases QaN H with ⟨h12,H⟩|⟨h12,H⟩
     ·skip
      obtain ⟨t4,e13,H⟩:=Qp H
      have e13:=Qaw.link e13
      try simp only [TN,simprocAttr, *]
      rcases QaN H with ⟨h14,H⟩|⟨h14,H⟩
      ·skip
       obtain ⟨t5,e15,H⟩:=Qp H
       have e15:=Qaw.link e15
       injection H with H;subst H
       try simp only [TN,simprocAttr, *]
       try rfl
      ·skip
       injection H with H;subst H
       try simp only [TN,simprocAttr, *]
       try rfl
     ·skip
      injection H with H;subst H
      try simp only [TN,simprocAttr, *]
      try rfl
    ·skip
     injection H with H;subst H
     try simp only [TN,simprocAttr, *]
     try rfl
 ·skip
  injection H with H;subst H
  try simp only [TN,simprocAttr, *]
  try rfl
end Go.Proofs.YtallpjhkmcgpoaaGreat.P
end
section
namespace Go.Proofs.YtallpjhkmcgpoaaGreat.P
open Go Go.RowKit Go.Proofs.YtallpjhkmcgpoaaGreat.V
def QT.l0:Nat→(List S67)→Int→Option Bool
 | 0,_,_=>none
 | k+1,l0,x3=>if x3<(l0.length:Int) then (if 0≤x3 then ((QbH.f k ((QaU l0 x3).f0) ((QaU l0 x3).f1) ((QaU l0 x3).f2) ((QaU l0 x3).f3) ((QaU l0 x3).f4)).bind fun t1=>(if t1=true then (QT.l0 k l0 (wrap64 (x3+1))) else (some false))) else none) else (some (decide ((l0.length:Int)≤60)))
def QT.f (k:Nat) (l0:List S67):Option Bool:=QT.l0 k l0 0
def QT.P0 (k:Nat):Prop:=∀ (l0:List S67) (x3:Int) (r:Bool),QT.l0 k l0 x3=some r→∀ st,canon 1 [0,3] st=⟨Qav [(0, .slc 0 [] 0 5 0 l0.length),(3, .i .i64 x3)],rsL [(0,some ⟨false,5,0,(l0.map (e67 false))⟩)],1⟩→W env QT.c1 st (Qb 0 (Qs env QT.c0 (Qf [.t 2] [false] ([.b r],[none]))))
theorem QT.s0 (k:Nat) (ih:QT.P0 k):QT.P0 (k+1):=by
 intro l0 x3 r H st hst
 rw [QT.l0] at H
 rw [Qat (show QT.c1=C.loop 1 [0,3] QT.d1 from rfl),hst]
 unfold QT.d1
 try simp only [TN,simprocAttr, *, QT.c0]
 rcases Qad H with ⟨h1,H⟩|⟨h1,H⟩
 ·skip
  obtain ⟨h2,H⟩:=i1 H
  obtain ⟨t1,e3,H⟩:=Qp H
  have e3:=QbH.link e3
  try simp only [TN,simprocAttr, *, QT.c0]
  rcases QaN H with ⟨h4,H⟩|⟨h4,H⟩
  ·skip
   try simp only [TN,simprocAttr, *, QT.c0]
   refine ih _ _ _ H _ ?_
   first|(rw [Qc];done)|(rw [Qc];rfl)|(rw [Qc];simp only [LL];rfl)
  ·skip
   injection H with H;subst H
   try simp only [TN,simprocAttr, *, QT.c0]
   try rfl
 ·skip
  injection H with H;subst H
  try simp only [TN,simprocAttr, *, QT.c0]
  try rfl
theorem QT.w:∀ k,QT.P0 k:=by
 intro k
 induction k with
 | zero=>exact by intro l0 x3 r H;cases (show (none:Option Bool)=some r from H)
 | succ k ih=>exact QT.s0 k ih
theorem QT.link {k:Nat} {l0:List S67} {r:Bool} (H:QT.f k l0=some r):Qao env 12 [.deep false true 5 (l0.map (e67 false))]=some ([.b r],[none]):=by
 unfold QT.f at H
 refine QM (F:=QT.F) (tm:=Qav [(0, .slc 0 [] 0 5 0 l0.length)]) (rs:=rsL [(0,some ⟨false,5,0,(l0.map (e67 false))⟩)]) (nx:=1) (ow:=[false]) rfl (by rfl) (by simp only [SN]) (by simp only [SN]) (by decide) ?_
 show W env QT.B _ (Qf [.t 2] [false] _)
 unfold QT.B
 try simp only [TN,simprocAttr, *, QT.c0]
 refine (QT.w k) _ _ _ H _ ?_
 first|(rw [Qc];done)|(rw [Qc];rfl)|(rw [Qc];simp only [LL];rfl)
end Go.Proofs.YtallpjhkmcgpoaaGreat.P
end
section
namespace Go.Proofs.YtallpjhkmcgpoaaGreat.P
open Go Go.RowKit Go.Proofs.YtallpjhkmcgpoaaGreat.V
def QH.l0:Nat→Int→Int→(List S67)→Int→Int→Option Int
 | 0,_,_,_,_,_=>none
 | k+1,a1,x5,l0,x9,x10=>if x10<x9 then (if 0≤x10 then (if x10<(l0.length:Int) then (if ((QaU l0 x10).f0)=a1 then (QH.l0 k a1 (wrap64 (x5+1)) l0 x9 (wrap64 (x10+1))) else (QH.l0 k a1 x5 l0 x9 (wrap64 (x10+1)))) else none) else none) else (some x5)
def QH.f (k:Nat) (l0:List S67) (a1:Int):Option Int:=QH.l0 k a1 0 l0 (l0.length:Int) 0
def QH.P0 (k:Nat):Prop:=∀ (a1:Int) (x5:Int) (l0:List S67) (x9:Int) (x10:Int) (r:Int),QH.l0 k a1 x5 l0 x9 x10=some r→∀ st,canon 1 [1,5,8,9,10] st=⟨Qav [(1, .i .i64 a1),(5, .i .i64 x5),(8, .slc 0 [] 0 5 0 l0.length),(9, .i .i64 x9),(10, .i .i64 x10)],rsL [(0,some ⟨false,5,0,(l0.map (e67 false))⟩)],1⟩→W env QH.c1 st (Qb 0 (Qs env QH.c0 (Qf [.t 4] [false] ([.i .i64 r],[none]))))
theorem QH.s0 (k:Nat) (ih:QH.P0 k):QH.P0 (k+1):=by
 intro a1 x5 l0 x9 x10 r H st hst
 rw [QH.l0] at H
 rw [Qat (show QH.c1=C.loop 1 [1,5,8,9,10] QH.d1 from rfl),hst]
 unfold QH.d1
 try simp only [TN,simprocAttr, *, QH.c0]
 rcases Qad H with ⟨h1,H⟩|⟨h1,H⟩
 ·skip
  obtain ⟨h2,h3,H⟩:=i2 H
  try simp only [TN,simprocAttr, *, QH.c0]
  rcases ioq H with ⟨h4,H⟩|⟨h4,H⟩
  ·skip
   try simp only [TN,simprocAttr, *, QH.c0]
   refine ih _ _ _ _ _ _ H _ ?_
   first|(rw [Qc];done)|(rw [Qc];rfl)|(rw [Qc];simp only [LL];rfl)
  ·skip
   try simp only [TN,simprocAttr, *, QH.c0]
   refine ih _ _ _ _ _ _ H _ ?_
   first|(rw [Qc];done)|(rw [Qc];rfl)|(rw [Qc];simp only [LL];rfl)
 ·skip
  injection H with H;subst H
  try simp only [TN,simprocAttr, *, QH.c0]
  try rfl
theorem QH.w:∀ k,QH.P0 k:=by
 intro k
 induction k with
 | zero=>exact by intro a1 x5 l0 x9 x10 r H;cases (show (none:Option Int)=some r from H)
 | succ k ih=>exact QH.s0 k ih
theorem QH.link {k:Nat} {l0:List S67} {a1:Int} {r:Int} (H:QH.f k l0 a1=some r):Qao env 13 [.deep false true 5 (l0.map (e67 false)), .i .i64 a1]=some ([.i .i64 r],[none]):=by
 unfold QH.f at H
 refine QM (F:=QH.F) (tm:=Qav [(0, .slc 0 [] 0 5 0 l0.length),(1, .i .i64 a1)]) (rs:=rsL [(0,some ⟨false,5,0,(l0.map (e67 false))⟩)]) (nx:=1) (ow:=[false]) rfl (by rfl) (by simp only [SN]) (by simp only [SN]) (by decide) ?_
 show W env QH.B _ (Qf [.t 4] [false] _)
 unfold QH.B
 try simp only [TN,simprocAttr, *, QH.c0]
 refine (QH.w k) _ _ _ _ _ _ H _ ?_
 first|(rw [Qc];done)|(rw [Qc];rfl)|(rw [Qc];simp only [LL];rfl)
end Go.Proofs.YtallpjhkmcgpoaaGreat.P
end
section
namespace Go.Proofs.YtallpjhkmcgpoaaGreat.P
open Go Go.RowKit Go.Proofs.YtallpjhkmcgpoaaGreat.V
def Q7.l0:Nat→(List Int)→Int→Int→Option Bool
 | 0,_,_,_=>none
 | k+1,l0,a1,x5=>if x5<(l0.length:Int) then (if 0≤x5 then ((Qaw.f (rd l0 x5) 0 1000).bind fun t1=>(if t1=true then (Q7.l0 k l0 a1 (wrap64 (x5+1))) else (some false))) else none) else (some ((l0.length:Int) == a1))
def Q7.f (k:Nat) (l0:List Int) (a1:Int):Option Bool:=Q7.l0 k l0 a1 0
def Q7.P0 (k:Nat):Prop:=∀ (l0:List Int) (a1:Int) (x5:Int) (r:Bool),Q7.l0 k l0 a1 x5=some r→∀ st,canon 1 [0,1,5] st=⟨Qav [(0, .slc 0 [] 0 1 0 l0.length),(1, .i .i64 a1),(5, .i .i64 x5)],rsL [(0,some ⟨false,1,0,(l0.map eI)⟩)],1⟩→W env Q7.c1 st (Qb 0 (Qs env Q7.c0 (Qf [.t 4] [false] ([.b r],[none]))))
theorem Q7.s0 (k:Nat) (ih:Q7.P0 k):Q7.P0 (k+1):=by
 intro l0 a1 x5 r H st hst
 rw [Q7.l0] at H
 rw [Qat (show Q7.c1=C.loop 1 [0,1,5] Q7.d1 from rfl),hst]
 unfold Q7.d1
 try simp only [TN,simprocAttr, *, Q7.c0]
 rcases Qad H with ⟨h1,H⟩|⟨h1,H⟩
 ·skip
  obtain ⟨h2,H⟩:=i1 H
  obtain ⟨t1,e3,H⟩:=Qp H
  have e3:=Qaw.link e3
  try simp only [TN,simprocAttr, *, Q7.c0]
  rcases QaN H with ⟨h4,H⟩|⟨h4,H⟩
  ·skip
   try simp only [TN,simprocAttr, *, Q7.c0]
   refine ih _ _ _ _ H _ ?_
   first|(rw [Qc];done)|(rw [Qc];rfl)|(rw [Qc];simp only [LL];rfl)
  ·skip
   injection H with H;subst H
   try simp only [TN,simprocAttr, *, Q7.c0]
   try rfl
 ·skip
  injection H with H;subst H
  try simp only [TN,simprocAttr, *, Q7.c0]
  try rfl
theorem Q7.w:∀ k,Q7.P0 k:=by
 intro k
 induction k with
 | zero=>exact by intro l0 a1 x5 r H;cases (show (none:Option Bool)=some r from H)
 | succ k ih=>exact Q7.s0 k ih
theorem Q7.link {k:Nat} {l0:List Int} {a1:Int} {r:Bool} (H:Q7.f k l0 a1=some r):Qao env 49 [.deep false true 1 (l0.map eI), .i .i64 a1]=some ([.b r],[none]):=by
 unfold Q7.f at H
 refine QM (F:=Q7.F) (tm:=Qav [(0, .slc 0 [] 0 1 0 l0.length),(1, .i .i64 a1)]) (rs:=rsL [(0,some ⟨false,1,0,(l0.map eI)⟩)]) (nx:=1) (ow:=[false]) rfl (by rfl) (by simp only [SN]) (by simp only [SN]) (by decide) ?_
 show W env Q7.B _ (Qf [.t 4] [false] _)
 unfold Q7.B
 try simp only [TN,simprocAttr, *, Q7.c0]
 refine (Q7.w k) _ _ _ _ H _ ?_
 first|(rw [Qc];done)|(rw [Qc];rfl)|(rw [Qc];simp only [LL];rfl)
end Go.Proofs.YtallpjhkmcgpoaaGreat.P
end
section
namespace Go.Proofs.YtallpjhkmcgpoaaGreat.P
open Go Go.RowKit Go.Proofs.YtallpjhkmcgpoaaGreat.V
def QX.l0:Nat→(List Int)→(List Int)→(List Int)→Int→Option Bool
 | 0,_,_,_,_=>none
 | k+1,l0_0,l0_1,l0_2,x3=>if x3<6 then (if 0≤wrap64 ((wrap64 (x3 * 6))+x3) then (if wrap64 ((wrap64 (x3 * 6))+x3)<(l0_2.length:Int) then (if (rd l0_2 (wrap64 ((wrap64 (x3 * 6))+x3)))=0 then (QX.l0 k l0_0 l0_1 l0_2 (wrap64 (x3+1))) else (some false)) else none) else none) else (some true)
def QX.f (k:Nat) (l0_0:List Int) (l0_1:List Int) (l0_2:List Int):Option Bool:=(Q7.f k l0_0 6).bind fun t1=>(if t1=true then ((Q7.f k l0_1 6).bind fun t2=>(if t2=true then ((Q7.f k l0_2 36).bind fun t3=>(if t3=true then (QX.l0 k l0_0 l0_1 l0_2 0) else (some false))) else (some false))) else (some false))
def QX.P0 (k:Nat):Prop:=∀ (l0_0:List Int) (l0_1:List Int) (l0_2:List Int) (x3:Int) (r:Bool),QX.l0 k l0_0 l0_1 l0_2 x3=some r→∀ st,canon 3 [1,3] st=⟨Qav [(1, .bx [.slc 0 [] 0 1 0 l0_0.length, .slc 1 [] 0 1 0 l0_1.length, .slc 2 [] 0 1 0 l0_2.length] 0),(3, .i .i64 x3)],rsL [(0,some ⟨false,1,0,(l0_0.map eI)⟩),(1,some ⟨false,1,0,(l0_1.map eI)⟩),(2,some ⟨false,1,0,(l0_2.map eI)⟩)],3⟩→W env QX.c1 st (Qb 0 (Qs env QX.c0 (Qf [.t 2] [false,false,false] ([.b r],[none,none,none]))))
theorem QX.s0 (k:Nat) (ih:QX.P0 k):QX.P0 (k+1):=by
 intro l0_0 l0_1 l0_2 x3 r H st hst
 rw [QX.l0] at H
 rw [Qat (show QX.c1=C.loop 3 [1,3] QX.d1 from rfl),hst]
 unfold QX.d1
 try simp only [TN,simprocAttr, *, QX.c0]
 rcases Qad H with ⟨h1,H⟩|⟨h1,H⟩
 ·skip
  obtain ⟨h2,h3,H⟩:=i2 H
  try simp only [TN,simprocAttr, *, QX.c0]
  rcases ioq H with ⟨h4,H⟩|⟨h4,H⟩
  ·skip
   try simp only [TN,simprocAttr, *, QX.c0]
   refine ih _ _ _ _ _ H _ ?_
   first|(rw [Qc];done)|(rw [Qc];rfl)|(rw [Qc];simp only [LL];rfl)
  ·skip
   injection H with H;subst H
   try simp only [TN,simprocAttr, *, QX.c0]
   try rfl
 ·skip
  injection H with H;subst H
  try simp only [TN,simprocAttr, *, QX.c0]
  try rfl
theorem QX.w:∀ k,QX.P0 k:=by
 intro k
 induction k with
 | zero=>exact by intro l0_0 l0_1 l0_2 x3 r H;cases (show (none:Option Bool)=some r from H)
 | succ k ih=>exact QX.s0 k ih
theorem QX.link {k:Nat} {l0_0:List Int} {l0_1:List Int} {l0_2:List Int} {r:Bool} (H:QX.f k l0_0 l0_1 l0_2=some r):Qao env 14 [.agg [.deep false true 1 (l0_0.map eI), .deep false true 1 (l0_1.map eI), .deep false true 1 (l0_2.map eI)]]=some ([.b r],[none,none,none]):=by
 unfold QX.f at H
 refine QM (F:=QX.F) (tm:=Qav [(0, .agg [.slc 0 [] 0 1 0 l0_0.length, .slc 1 [] 0 1 0 l0_1.length, .slc 2 [] 0 1 0 l0_2.length])]) (rs:=rsL [(0,some ⟨false,1,0,(l0_0.map eI)⟩),(1,some ⟨false,1,0,(l0_1.map eI)⟩),(2,some ⟨false,1,0,(l0_2.map eI)⟩)]) (nx:=3) (ow:=[false,false,false]) rfl (by rfl) (by simp only [SN]) (by simp only [SN]) (by decide) ?_
 show W env QX.B _ (Qf [.t 2] [false,false,false] _)
 unfold QX.B
 obtain ⟨t1,e1,H⟩:=Qp H
 have e1:=Q7.link e1
 try simp only [TN,simprocAttr, *, QX.c0]
 rcases QaN H with ⟨h2,H⟩|⟨h2,H⟩
 ·skip
  obtain ⟨t2,e3,H⟩:=Qp H
  have e3:=Q7.link e3
  try simp only [TN,simprocAttr, *, QX.c0]
  rcases QaN H with ⟨h4,H⟩|⟨h4,H⟩
  ·skip
   obtain ⟨t3,e5,H⟩:=Qp H
   have e5:=Q7.link e5
   try simp only [TN,simprocAttr, *, QX.c0]
   rcases QaN H with ⟨h6,H⟩|⟨h6,H⟩
   ·skip
    try simp only [TN,simprocAttr, *, QX.c0]
    refine (QX.w k) _ _ _ _ _ H _ ?_
    first|(rw [Qc];done)|(rw [Qc];rfl)|(rw [Qc];simp only [LL];rfl)
   ·skip
    injection H with H;subst H
    try simp only [TN,simprocAttr, *, QX.c0]
    try rfl
  ·skip
   injection H with H;subst H
   try simp only [TN,simprocAttr, *, QX.c0]
   try rfl
 ·skip
  injection H with H;subst H
  try simp only [TN,simprocAttr, *, QX.c0]
  try rfl
end Go.Proofs.YtallpjhkmcgpoaaGreat.P
end
section
namespace Go.Proofs.YtallpjhkmcgpoaaGreat.P
open Go Go.RowKit Go.Proofs.YtallpjhkmcgpoaaGreat.V
def Qap.f (a0:Int):Option Bool:=(Qaa.f a0 0 1000).bind fun t1=>(some (!t1))
theorem Qap.link {a0:Int} {r:Bool} (H:Qap.f a0=some r):Qao env 120 [.i .i64 a0]=some ([.b r],[]):=by
 unfold Qap.f at H
 refine QM (F:=Qap.F) (tm:=Qav [(0, .i .i64 a0)]) (rs:=rsL []) (nx:=0) (ow:=[]) rfl (by rfl) (by simp only [SN]) (by simp only [SN]) (by decide) ?_
 show W env Qap.B _ (Qf [.t 2] [] _)
 unfold Qap.B
 obtain ⟨t1,e1,H⟩:=Qp H
 have e1:=Qaa.link e1
 injection H with H;subst H
 try simp only [TN,simprocAttr, *]
 try rfl
end Go.Proofs.YtallpjhkmcgpoaaGreat.P
end
section
namespace Go.Proofs.YtallpjhkmcgpoaaGreat.P
open Go Go.RowKit Go.Proofs.YtallpjhkmcgpoaaGreat.V
def Qn.l0:Nat→(List Int)→Int→Int→Option Int
 | 0,_,_,_=>none
 | k+1,l0,x7,x8=>if x8<x7 then (if 0≤x8 then (if x8<(l0.length:Int) then ((Qap.f (rd l0 x8)).bind fun t1=>(if t1=true then (some x8) else (Qn.l0 k l0 x7 (wrap64 (x8+1))))) else none) else none) else (some (-1))
def Qn.f (k:Nat) (l0:List Int):Option Int:=Qn.l0 k l0 (l0.length:Int) 0
def Qn.P0 (k:Nat):Prop:=∀ (l0:List Int) (x7:Int) (x8:Int) (r:Int),Qn.l0 k l0 x7 x8=some r→∀ st,canon 5 [0,1,7,8] st=⟨Qav [(0, .slc 0 [] 0 1 0 l0.length),(1, .fn 120 []),(7, .i .i64 x7),(8, .i .i64 x8)],rsL [(0,some ⟨false,1,0,(l0.map eI)⟩),(1,none),(2,none),(3,none),(4,none)],5⟩→W env Qn.c1 st (Qb 0 (Qs env Qn.c0 (Qf [.t 4] [false] ([.i .i64 r],[none]))))
theorem Qn.s0 (k:Nat) (ih:Qn.P0 k):Qn.P0 (k+1):=by
 intro l0 x7 x8 r H st hst
 rw [Qn.l0] at H
 rw [Qat (show Qn.c1=C.loop 5 [0,1,7,8] Qn.d1 from rfl),hst]
 unfold Qn.d1
 try simp only [TN,simprocAttr, *, Qn.c0]
 rcases Qad H with ⟨h1,H⟩|⟨h1,H⟩
 ·skip
  obtain ⟨h2,h3,H⟩:=i2 H
  obtain ⟨t1,e4,H⟩:=Qp H
  have e4:=Qap.link e4
  try simp only [TN,simprocAttr, *, Qn.c0]
  rcases QaN H with ⟨h5,H⟩|⟨h5,H⟩
  ·skip
   injection H with H;subst H
   try simp only [TN,simprocAttr, *, Qn.c0]
   try rfl
  ·skip
   try simp only [TN,simprocAttr, *, Qn.c0]
   refine ih _ _ _ _ H _ ?_
   first|(rw [Qc];done)|(rw [Qc];rfl)|(rw [Qc];simp only [LL];rfl)
 ·skip
  injection H with H;subst H
  try simp only [TN,simprocAttr, *, Qn.c0]
  try rfl
theorem Qn.w:∀ k,Qn.P0 k:=by
 intro k
 induction k with
 | zero=>exact by intro l0 x7 x8 r H;cases (show (none:Option Int)=some r from H)
 | succ k ih=>exact Qn.s0 k ih
theorem Qn.link {k:Nat} {l0:List Int} {r:Int} (H:Qn.f k l0=some r):Qao env 140 [.deep false true 1 (l0.map eI), .fn 120 []]=some ([.i .i64 r],[none]):=by
 unfold Qn.f at H
 refine QM (F:=Qn.F) (tm:=Qav [(0, .slc 0 [] 0 1 0 l0.length),(1, .fn 120 [])]) (rs:=rsL [(0,some ⟨false,1,0,(l0.map eI)⟩)]) (nx:=1) (ow:=[false]) rfl (by rfl) (by simp only [SN]) (by simp only [SN]) (by decide) ?_
 show W env Qn.B _ (Qf [.t 4] [false] _)
 unfold Qn.B
 try simp only [TN,simprocAttr, *, Qn.c0]
 refine (Qn.w k) _ _ _ _ H _ ?_
 first|(rw [Qc];done)|(rw [Qc];rfl)|(rw [Qc];simp only [LL];rfl)
end Go.Proofs.YtallpjhkmcgpoaaGreat.P
end
section
namespace Go.Proofs.YtallpjhkmcgpoaaGreat.P
open Go Go.RowKit Go.Proofs.YtallpjhkmcgpoaaGreat.V
def Q1.f (k:Nat) (l0:List Int):Option Bool:=(Qn.f k l0).bind fun t1=>(some (decide (t1≥0)))
theorem Q1.link {k:Nat} {l0:List Int} {r:Bool} (H:Q1.f k l0=some r):Qao env 119 [.deep false true 1 (l0.map eI), .fn 120 []]=some ([.b r],[none]):=by
 unfold Q1.f at H
 refine QM (F:=Q1.F) (tm:=Qav [(0, .slc 0 [] 0 1 0 l0.length),(1, .fn 120 [])]) (rs:=rsL [(0,some ⟨false,1,0,(l0.map eI)⟩)]) (nx:=1) (ow:=[false]) rfl (by rfl) (by simp only [SN]) (by simp only [SN]) (by decide) ?_
 show W env Q1.B _ (Qf [.t 4] [false] _)
 unfold Q1.B
 obtain ⟨t1,e1,H⟩:=Qp H
 have e1:=Qn.link e1
 injection H with H;subst H
 try simp only [TN,simprocAttr, *]
 try rfl
end Go.Proofs.YtallpjhkmcgpoaaGreat.P
end
section
namespace Go.Proofs.YtallpjhkmcgpoaaGreat.P
open Go Go.RowKit Go.Proofs.YtallpjhkmcgpoaaGreat.V
def QaG.f (k:Nat) (l0:List Int) (a1:Int):Option Bool:=if (l0.length:Int)=a1 then ((Q1.f k l0).bind fun t1=>(some (!t1))) else (some false)
theorem QaG.link {k:Nat} {l0:List Int} {a1:Int} {r:Bool} (H:QaG.f k l0 a1=some r):Qao env 94 [.deep false true 1 (l0.map eI), .i .i64 a1]=some ([.b r],[none]):=by
 unfold QaG.f at H
 refine QM (F:=QaG.F) (tm:=Qav [(0, .slc 0 [] 0 1 0 l0.length),(1, .i .i64 a1)]) (rs:=rsL [(0,some ⟨false,1,0,(l0.map eI)⟩)]) (nx:=1) (ow:=[false]) rfl (by rfl) (by simp only [SN]) (by simp only [SN]) (by decide) ?_
 show W env QaG.B _ (Qf [.t 4] [false] _)
 unfold QaG.B
 try simp only [TN,simprocAttr, *]
 rcases ioq H with ⟨h1,H⟩|⟨h1,H⟩
 ·skip
  obtain ⟨t1,e2,H⟩:=Qp H
  have e2:=Q1.link e2
  injection H with H;subst H
  try simp only [TN,simprocAttr, *]
  try rfl
 ·skip
  injection H with H;subst H
  try simp only [TN,simprocAttr, *]
  try rfl
end Go.Proofs.YtallpjhkmcgpoaaGreat.P
end
section
namespace Go.Proofs.YtallpjhkmcgpoaaGreat.P
open Go Go.RowKit Go.Proofs.YtallpjhkmcgpoaaGreat.V
def QP.l0:Nat→(List Int)→(List Int)→(List Int)→Int→Option Bool
 | 0,_,_,_,_=>none
 | k+1,l0_0,l0_1,l0_2,x20=>if x20<6 then (if 0≤wrap64 ((wrap64 (x20 * 6))+x20) then (if wrap64 ((wrap64 (x20 * 6))+x20)<(l0_2.length:Int) then (if (rd l0_2 (wrap64 ((wrap64 (x20 * 6))+x20)))=0 then (QP.l0 k l0_0 l0_1 l0_2 (wrap64 (x20+1))) else (some false)) else none) else none) else (some true)
def QP.f (k:Nat) (l0_0:List Int) (l0_1:List Int) (l0_2:List Int):Option Bool:=(QaG.f k l0_0 6).bind fun t1=>(if t1=true then ((QaG.f k l0_1 6).bind fun t2=>(if t2=true then ((QaG.f k l0_2 36).bind fun t3=>(if t3=true then (QP.l0 k l0_0 l0_1 l0_2 0) else (some false))) else (some false))) else (some false))
def QP.P0 (k:Nat):Prop:=∀ (l0_0:List Int) (l0_1:List Int) (l0_2:List Int) (x20:Int) (r:Bool),QP.l0 k l0_0 l0_1 l0_2 x20=some r→∀ st,canon 3 [1,20] st=⟨Qav [(1, .bx [.slc 0 [] 0 1 0 l0_0.length, .slc 1 [] 0 1 0 l0_1.length, .slc 2 [] 0 1 0 l0_2.length] 0),(20, .i .i64 x20)],rsL [(0,some ⟨false,1,0,(l0_0.map eI)⟩),(1,some ⟨false,1,0,(l0_1.map eI)⟩),(2,some ⟨false,1,0,(l0_2.map eI)⟩)],3⟩→W env QP.c1 st (Qb 0 (Qs env QP.c0 (Qf [.t 2] [false,false,false] ([.b r],[none,none,none]))))
theorem QP.s0 (k:Nat) (ih:QP.P0 k):QP.P0 (k+1):=by
 intro l0_0 l0_1 l0_2 x20 r H st hst
 rw [QP.l0] at H
 rw [Qat (show QP.c1=C.loop 3 [1,20] QP.d1 from rfl),hst]
 unfold QP.d1
 try simp only [TN,simprocAttr, *, QP.c0]
 rcases Qad H with ⟨h1,H⟩|⟨h1,H⟩
 ·skip
  obtain ⟨h2,h3,H⟩:=i2 H
  try simp only [TN,simprocAttr, *, QP.c0]
  rcases ioq H with ⟨h4,H⟩|⟨h4,H⟩
  ·skip
   try simp only [TN,simprocAttr, *, QP.c0]
   refine ih _ _ _ _ _ H _ ?_
   first|(rw [Qc];done)|(rw [Qc];rfl)|(rw [Qc];simp only [LL];rfl)
  ·skip
   injection H with H;subst H
   try simp only [TN,simprocAttr, *, QP.c0]
   try rfl
 ·skip
  injection H with H;subst H
  try simp only [TN,simprocAttr, *, QP.c0]
  try rfl
theorem QP.w:∀ k,QP.P0 k:=by
 intro k
 induction k with
 | zero=>exact by intro l0_0 l0_1 l0_2 x20 r H;cases (show (none:Option Bool)=some r from H)
 | succ k ih=>exact QP.s0 k ih
theorem QP.link {k:Nat} {l0_0:List Int} {l0_1:List Int} {l0_2:List Int} {r:Bool} (H:QP.f k l0_0 l0_1 l0_2=some r):Qao env 50 [.agg [.deep false true 1 (l0_0.map eI), .deep false true 1 (l0_1.map eI), .deep false true 1 (l0_2.map eI)]]=some ([.b r],[none,none,none]):=by
 unfold QP.f at H
 refine QM (F:=QP.F) (tm:=Qav [(0, .agg [.slc 0 [] 0 1 0 l0_0.length, .slc 1 [] 0 1 0 l0_1.length, .slc 2 [] 0 1 0 l0_2.length])]) (rs:=rsL [(0,some ⟨false,1,0,(l0_0.map eI)⟩),(1,some ⟨false,1,0,(l0_1.map eI)⟩),(2,some ⟨false,1,0,(l0_2.map eI)⟩)]) (nx:=3) (ow:=[false,false,false]) rfl (by rfl) (by simp only [SN]) (by simp only [SN]) (by decide) ?_
 show W env QP.B _ (Qf [.t 2] [false,false,false] _)
 unfold QP.B
 obtain ⟨t1,e1,H⟩:=Qp H
 have e1:=QaG.link e1
 try simp only [TN,simprocAttr, *, QP.c0]
 rcases QaN H with ⟨h2,H⟩|⟨h2,H⟩
 ·skip
  obtain ⟨t2,e3,H⟩:=Qp H
  have e3:=QaG.link e3
  try simp only [TN,simprocAttr, *, QP.c0]
  rcases QaN H with ⟨h4,H⟩|⟨h4,H⟩
  ·skip
   obtain ⟨t3,e5,H⟩:=Qp H
   have e5:=QaG.link e5
   try simp only [TN,simprocAttr, *, QP.c0]
   rcases QaN H with ⟨h6,H⟩|⟨h6,H⟩
   ·skip
    try simp only [TN,simprocAttr, *, QP.c0]
    refine (QP.w k) _ _ _ _ _ H _ ?_
    first|(rw [Qc];done)|(rw [Qc];rfl)|(rw [Qc];simp only [LL];rfl)
   ·skip
    injection H with H;subst H
    try simp only [TN,simprocAttr, *, QP.c0]
    try rfl
  ·skip
   injection H with H;subst H
   try simp only [TN,simprocAttr, *, QP.c0]
   try rfl
 ·skip
  injection H with H;subst H
  try simp only [TN,simprocAttr, *, QP.c0]
  try rfl
end Go.Proofs.YtallpjhkmcgpoaaGreat.P
end
section
namespace Go.Proofs.YtallpjhkmcgpoaaGreat.P
open Go Go.RowKit Go.Proofs.YtallpjhkmcgpoaaGreat.V
def QaV.f (k:Nat) (l0_0:List Int) (l0_1:List Int) (l0_2:List Int) (a1:Int) (a2:Int):Option Int:=(QP.f k l0_0 l0_1 l0_2).bind fun t1=>(if t1=true then ((Qar.f a1).bind fun t2=>(if t2=true then ((Qar.f a2).bind fun t3=>(if t3=true then (if 0≤wrap64 ((wrap64 (a1 * 6))+a2) then (if wrap64 ((wrap64 (a1 * 6))+a2)<(l0_2.length:Int) then (some (rd l0_2 (wrap64 ((wrap64 (a1 * 6))+a2)))) else none) else none) else (some 0))) else (some 0))) else (some 0))
theorem QaV.link {k:Nat} {l0_0:List Int} {l0_1:List Int} {l0_2:List Int} {a1:Int} {a2:Int} {r:Int} (H:QaV.f k l0_0 l0_1 l0_2 a1 a2=some r):Qao env 52 [.agg [.deep false true 1 (l0_0.map eI), .deep false true 1 (l0_1.map eI), .deep false true 1 (l0_2.map eI)], .i .i64 a1, .i .i64 a2]=some ([.i .i64 r],[none,none,none]):=by
 unfold QaV.f at H
 refine QM (F:=QaV.F) (tm:=Qav [(0, .agg [.slc 0 [] 0 1 0 l0_0.length, .slc 1 [] 0 1 0 l0_1.length, .slc 2 [] 0 1 0 l0_2.length]),(1, .i .i64 a1),(2, .i .i64 a2)]) (rs:=rsL [(0,some ⟨false,1,0,(l0_0.map eI)⟩),(1,some ⟨false,1,0,(l0_1.map eI)⟩),(2,some ⟨false,1,0,(l0_2.map eI)⟩)]) (nx:=3) (ow:=[false,false,false]) rfl (by rfl) (by simp only [SN]) (by simp only [SN]) (by decide) ?_
 show W env QaV.B _ (Qf [.t 6] [false,false,false] _)
 unfold QaV.B
 obtain ⟨t1,e1,H⟩:=Qp H
 have e1:=QP.link e1
 try simp only [TN,simprocAttr, *]
 rcases QaN H with ⟨h2,H⟩|⟨h2,H⟩
 ·skip
  obtain ⟨t2,e3,H⟩:=Qp H
  have e3:=Qar.link e3
  try simp only [TN,simprocAttr, *]
  rcases QaN H with ⟨h4,H⟩|⟨h4,H⟩
  ·skip
   obtain ⟨t3,e5,H⟩:=Qp H
   have e5:=Qar.link e5
   try simp only [TN,simprocAttr, *]
   rcases QaN H with ⟨h6,H⟩|⟨h6,H⟩
   ·skip
    obtain ⟨h7,h8,H⟩:=i2 H
    injection H with H;subst H
    try simp only [TN,simprocAttr, *]
    try rfl
   ·skip
    injection H with H;subst H
    try simp only [TN,simprocAttr, *]
    try rfl
  ·skip
   injection H with H;subst H
   try simp only [TN,simprocAttr, *]
   try rfl
 ·skip
  injection H with H;subst H
  try simp only [TN,simprocAttr, *]
  try rfl
end Go.Proofs.YtallpjhkmcgpoaaGreat.P
end
section
namespace Go.Proofs.YtallpjhkmcgpoaaGreat.P
open Go Go.RowKit Go.Proofs.YtallpjhkmcgpoaaGreat.V
def Qa6.f (k:Nat) (l0_0:List Int) (l0_1:List Int) (l0_2:List Int) (a1:Int):Option Int:=(QP.f k l0_0 l0_1 l0_2).bind fun t1=>(if t1=true then ((Qar.f a1).bind fun t2=>(if t2=true then (if 0≤a1 then (if a1<(l0_0.length:Int) then (some (rd l0_0 a1)) else none) else none) else (some 0))) else (some 0))
theorem Qa6.link {k:Nat} {l0_0:List Int} {l0_1:List Int} {l0_2:List Int} {a1:Int} {r:Int} (H:Qa6.f k l0_0 l0_1 l0_2 a1=some r):Qao env 53 [.agg [.deep false true 1 (l0_0.map eI), .deep false true 1 (l0_1.map eI), .deep false true 1 (l0_2.map eI)], .i .i64 a1]=some ([.i .i64 r],[none,none,none]):=by
 unfold Qa6.f at H
 refine QM (F:=Qa6.F) (tm:=Qav [(0, .agg [.slc 0 [] 0 1 0 l0_0.length, .slc 1 [] 0 1 0 l0_1.length, .slc 2 [] 0 1 0 l0_2.length]),(1, .i .i64 a1)]) (rs:=rsL [(0,some ⟨false,1,0,(l0_0.map eI)⟩),(1,some ⟨false,1,0,(l0_1.map eI)⟩),(2,some ⟨false,1,0,(l0_2.map eI)⟩)]) (nx:=3) (ow:=[false,false,false]) rfl (by rfl) (by simp only [SN]) (by simp only [SN]) (by decide) ?_
 show W env Qa6.B _ (Qf [.t 4] [false,false,false] _)
 unfold Qa6.B
 obtain ⟨t1,e1,H⟩:=Qp H
 have e1:=QP.link e1
 try simp only [TN,simprocAttr, *]
 rcases QaN H with ⟨h2,H⟩|⟨h2,H⟩
 ·skip
  obtain ⟨t2,e3,H⟩:=Qp H
  have e3:=Qar.link e3
  try simp only [TN,simprocAttr, *]
  rcases QaN H with ⟨h4,H⟩|⟨h4,H⟩
  ·skip
   obtain ⟨h5,h6,H⟩:=i2 H
   injection H with H;subst H
   try simp only [TN,simprocAttr, *]
   try rfl
  ·skip
   injection H with H;subst H
   try simp only [TN,simprocAttr, *]
   try rfl
 ·skip
  injection H with H;subst H
  try simp only [TN,simprocAttr, *]
  try rfl
end Go.Proofs.YtallpjhkmcgpoaaGreat.P
end
section
namespace Go.Proofs.YtallpjhkmcgpoaaGreat.P
open Go Go.RowKit Go.Proofs.YtallpjhkmcgpoaaGreat.V
def Qa5.f (k:Nat) (l0_0:List Int) (l0_1:List Int) (l0_2:List Int) (a1:Int):Option Int:=(QP.f k l0_0 l0_1 l0_2).bind fun t1=>(if t1=true then ((Qar.f a1).bind fun t2=>(if t2=true then (if 0≤a1 then (if a1<(l0_1.length:Int) then (some (rd l0_1 a1)) else none) else none) else (some 0))) else (some 0))
theorem Qa5.link {k:Nat} {l0_0:List Int} {l0_1:List Int} {l0_2:List Int} {a1:Int} {r:Int} (H:Qa5.f k l0_0 l0_1 l0_2 a1=some r):Qao env 54 [.agg [.deep false true 1 (l0_0.map eI), .deep false true 1 (l0_1.map eI), .deep false true 1 (l0_2.map eI)], .i .i64 a1]=some ([.i .i64 r],[none,none,none]):=by
 unfold Qa5.f at H
 refine QM (F:=Qa5.F) (tm:=Qav [(0, .agg [.slc 0 [] 0 1 0 l0_0.length, .slc 1 [] 0 1 0 l0_1.length, .slc 2 [] 0 1 0 l0_2.length]),(1, .i .i64 a1)]) (rs:=rsL [(0,some ⟨false,1,0,(l0_0.map eI)⟩),(1,some ⟨false,1,0,(l0_1.map eI)⟩),(2,some ⟨false,1,0,(l0_2.map eI)⟩)]) (nx:=3) (ow:=[false,false,false]) rfl (by rfl) (by simp only [SN]) (by simp only [SN]) (by decide) ?_
 show W env Qa5.B _ (Qf [.t 4] [false,false,false] _)
 unfold Qa5.B
 obtain ⟨t1,e1,H⟩:=Qp H
 have e1:=QP.link e1
 try simp only [TN,simprocAttr, *]
 rcases QaN H with ⟨h2,H⟩|⟨h2,H⟩
 ·skip
  obtain ⟨t2,e3,H⟩:=Qp H
  have e3:=Qar.link e3
  try simp only [TN,simprocAttr, *]
  rcases QaN H with ⟨h4,H⟩|⟨h4,H⟩
  ·skip
   obtain ⟨h5,h6,H⟩:=i2 H
   injection H with H;subst H
   try simp only [TN,simprocAttr, *]
   try rfl
  ·skip
   injection H with H;subst H
   try simp only [TN,simprocAttr, *]
   try rfl
 ·skip
  injection H with H;subst H
  try simp only [TN,simprocAttr, *]
  try rfl
end Go.Proofs.YtallpjhkmcgpoaaGreat.P
end
section
namespace Go.Proofs.YtallpjhkmcgpoaaGreat.P
open Go Go.RowKit Go.Proofs.YtallpjhkmcgpoaaGreat.V
def Qy.l0:Nat→(List Int)→(List Int)→(List Int)→Int→(List S38)→(List S67)→Int→Int→(List S38)→Option Int
 | 0,_,_,_,_,_,_,_,_,_=>none
 | k+1,l2_0,l2_1,l2_2,x7,x8,l1,x25,x26,l0=>if x26<x25 then (if 0≤x26 then (if x26<(l1.length:Int) then ((QY.f k x8 ((QaU l1 x26).f1)).bind fun t4=>((Qo.f k x8 ((QaU l1 x26).f0) ((QaU l1 x26).f1) ((QaU l1 x26).f2) ((QaU l1 x26).f3) ((QaU l1 x26).f4)).bind fun bt5=>(if bt5.2=0 then (if ((QaU l1 x26).f0)=1 then (if 0≤t4 then (if t4<(x8.length:Int) then ((QaV.f k l2_0 l2_1 l2_2 ((Qac x8 t4).f0) ((QaU l1 x26).f2)).bind fun t6=>(Qy.l0 k l2_0 l2_1 l2_2 (wrap64 (x7+t6)) bt5.1 l1 x25 (wrap64 (x26+1)) l0)) else none) else none) else (if ((QaU l1 x26).f0)=2 then (if 0≤t4 then (if t4<(x8.length:Int) then ((Qa6.f k l2_0 l2_1 l2_2 ((Qac x8 t4).f0)).bind fun t7=>(Qy.l0 k l2_0 l2_1 l2_2 (wrap64 (x7+t7)) bt5.1 l1 x25 (wrap64 (x26+1)) l0)) else none) else none) else ((Qa5.f k l2_0 l2_1 l2_2 ((QaU l1 x26).f2)).bind fun t8=>(Qy.l0 k l2_0 l2_1 l2_2 (wrap64 (x7+t8)) bt5.1 l1 x25 (wrap64 (x26+1)) l0)))) else (some (-1))))) else none) else none) else (some x7)
def Qy.f (k:Nat) (l0:List S38) (l1:List S67) (l2_0:List Int) (l2_1:List Int) (l2_2:List Int):Option Int:=(QE.f k l0).bind fun t1=>(if t1=true then ((QP.f k l2_0 l2_1 l2_2).bind fun t2=>(if t2=true then ((Qz.f l0).bind fun t3=>(Qy.l0 k l2_0 l2_1 l2_2 0 t3 l1 (l1.length:Int) 0 l0)) else (some (-1)))) else (some (-1)))
def Qy.P0 (k:Nat):Prop:=∀ (l2_0:List Int) (l2_1:List Int) (l2_2:List Int) (x7:Int) (x8:List S38) (l1:List S67) (x25:Int) (x26:Int) (l0:List S38) (r:Int),Qy.l0 k l2_0 l2_1 l2_2 x7 x8 l1 x25 x26 l0=some r→∀ st,canon 5 [5,7,8,24,25,26] st=⟨Qav [(5, .bx [.slc 2 [] 0 1 0 l2_0.length, .slc 3 [] 0 1 0 l2_1.length, .slc 4 [] 0 1 0 l2_2.length] 0),(7, .i .i64 x7),(8, .slc 5 [] 0 2 0 x8.length),(24, .slc 1 [] 0 5 0 l1.length),(25, .i .i64 x25),(26, .i .i64 x26)],rsL [(0,some ⟨false,2,0,(l0.map e38)⟩),(1,some ⟨false,5,0,(l1.map (e67 false))⟩),(2,some ⟨false,1,0,(l2_0.map eI)⟩),(3,some ⟨false,1,0,(l2_1.map eI)⟩),(4,some ⟨false,1,0,(l2_2.map eI)⟩),(5,some ⟨true,2,0,(x8.map e38)⟩)],6⟩→W env Qy.c1 st (Qb 0 (Qs env Qy.c0 (Qf [.t 6] [false,false,false,false,false] ([.i .i64 r],[none,none,none,none,none]))))
theorem Qy.s0 (k:Nat) (ih:Qy.P0 k):Qy.P0 (k+1):=by
 intro l2_0 l2_1 l2_2 x7 x8 l1 x25 x26 l0 r H st hst
 rw [Qy.l0] at H
 rw [Qat (show Qy.c1=C.loop 5 [5,7,8,24,25,26] Qy.d1 from rfl),hst]
 unfold Qy.d1
 try simp only [TN,simprocAttr, *, Qy.c0]
 rcases Qad H with ⟨h1,H⟩|⟨h1,H⟩
 ·skip
  obtain ⟨h2,h3,H⟩:=i2 H
  obtain ⟨t4,e4,H⟩:=Qp H
  have e4:=QY.link e4
  obtain ⟨bt5,e5,H⟩:=Qp H
  have e5:=Qo.link e5
  try simp only [TN,simprocAttr, *, Qy.c0]
  rcases ioq H with ⟨h6,H⟩|⟨h6,H⟩
  ·skip
   try simp only [TN,simprocAttr, *, Qy.c0]
   rcases ioq H with ⟨h7,H⟩|⟨h7,H⟩
   ·skip
    obtain ⟨h8,h9,H⟩:=i2 H
    obtain ⟨t6,e10,H⟩:=Qp H
    have e10:=QaV.link e10
    try simp only [TN,simprocAttr, *, Qy.c0]
    refine ih _ _ _ _ _ _ _ _ _ _ H _ ?_
    first|(rw [Qc];done)|(rw [Qc];rfl)|(rw [Qc];simp only [LL];rfl)
   ·skip
    try simp only [TN,simprocAttr, *, Qy.c0]
    rcases ioq H with ⟨h11,H⟩|⟨h11,H⟩
    ·skip
     obtain ⟨h12,h13,H⟩:=i2 H
     obtain ⟨t7,e14,H⟩:=Qp H
     have e14:=Qa6.link e14
     try simp only [TN,simprocAttr, *, Qy.c0]
     refine ih _ _ _ _ _ _ _ _ _ _ H _ ?_
     first|(rw [Qc];done)|(rw [Qc];rfl)|(rw [Qc];simp only [LL];rfl)
    ·skip
     obtain ⟨t8,e15,H⟩:=Qp H
     have e15:=Qa5.link e15
     try simp only [TN,simprocAttr, *, Qy.c0]
     refine ih _ _ _ _ _ _ _ _ _ _ H _ ?_
     first|(rw [Qc];done)|(rw [Qc];rfl)|(rw [Qc];simp only [LL];rfl)
  ·skip
   injection H with H;subst H
   try simp only [TN,simprocAttr, *, Qy.c0]
   try rfl
 ·skip
  injection H with H;subst H
  try simp only [TN,simprocAttr, *, Qy.c0]
  try rfl
theorem Qy.w:∀ k,Qy.P0 k:=by
 intro k
 induction k with
 | zero=>exact by intro l2_0 l2_1 l2_2 x7 x8 l1 x25 x26 l0 r H;cases (show (none:Option Int)=some r from H)
 | succ k ih=>exact Qy.s0 k ih
theorem Qy.link {k:Nat} {l0:List S38} {l1:List S67} {l2_0:List Int} {l2_1:List Int} {l2_2:List Int} {r:Int} (H:Qy.f k l0 l1 l2_0 l2_1 l2_2=some r):Qao env 15 [.deep false true 2 (l0.map e38), .deep false true 5 (l1.map (e67 false)), .agg [.deep false true 1 (l2_0.map eI), .deep false true 1 (l2_1.map eI), .deep false true 1 (l2_2.map eI)]]=some ([.i .i64 r],[none,none,none,none,none]):=by
 unfold Qy.f at H
 refine QM (F:=Qy.F) (tm:=Qav [(0, .slc 0 [] 0 2 0 l0.length),(1, .slc 1 [] 0 5 0 l1.length),(2, .agg [.slc 2 [] 0 1 0 l2_0.length, .slc 3 [] 0 1 0 l2_1.length, .slc 4 [] 0 1 0 l2_2.length])]) (rs:=rsL [(0,some ⟨false,2,0,(l0.map e38)⟩),(1,some ⟨false,5,0,(l1.map (e67 false))⟩),(2,some ⟨false,1,0,(l2_0.map eI)⟩),(3,some ⟨false,1,0,(l2_1.map eI)⟩),(4,some ⟨false,1,0,(l2_2.map eI)⟩)]) (nx:=5) (ow:=[false,false,false,false,false]) rfl (by rfl) (by simp only [SN]) (by simp only [SN]) (by decide) ?_
 show W env Qy.B _ (Qf [.t 6] [false,false,false,false,false] _)
 unfold Qy.B
 obtain ⟨t1,e1,H⟩:=Qp H
 have e1:=QE.link e1
 try simp only [TN,simprocAttr, *, Qy.c0]
 rcases QaN H with ⟨h2,H⟩|⟨h2,H⟩
 ·skip
  obtain ⟨t2,e3,H⟩:=Qp H
  have e3:=QP.link e3
  try simp only [TN,simprocAttr, *, Qy.c0]
  rcases QaN H with ⟨h4,H⟩|⟨h4,H⟩
  ·skip
   obtain ⟨t3,e5,H⟩:=Qp H
   have e5:=Qz.link e5
   try simp only [TN,simprocAttr, *, Qy.c0]
   refine (Qy.w k) _ _ _ _ _ _ _ _ _ _ H _ ?_
   first|(rw [Qc];done)|(rw [Qc];rfl)|(rw [Qc];simp only [LL];rfl)
  ·skip
   injection H with H;subst H
   try simp only [TN,simprocAttr, *, Qy.c0]
   try rfl
 ·skip
  injection H with H;subst H
  try simp only [TN,simprocAttr, *, Qy.c0]
  try rfl
end Go.Proofs.YtallpjhkmcgpoaaGreat.P
end
section
namespace Go.Proofs.YtallpjhkmcgpoaaGreat.P
open Go Go.RowKit Go.Proofs.YtallpjhkmcgpoaaGreat.V
def Qay.f (a0_0:Int) (a0_1:Int) (v0_0:Int):Option Bool:=some (a0_0 == v0_0)
theorem Qay.link {a0_0:Int} {a0_1:Int} {v0_0:Int} {r:Bool} (H:Qay.f a0_0 a0_1 v0_0=some r):Qao env 56 [.agg [.i .i64 a0_0, .i .i64 a0_1], .deep true true 1 [[.i .i64 v0_0]]]=some ([.b r],[none]):=by
 unfold Qay.f at H
 refine QM (F:=Qay.F) (tm:=Qav [(0, .agg [.i .i64 a0_0, .i .i64 a0_1]),(1, .ptr 0 [] 0 0 0)]) (rs:=rsL [(0,some ⟨false,1,0,[[.i .i64 v0_0]]⟩)]) (nx:=1) (ow:=[false]) rfl (by rfl) (by simp only [SN]) (by simp only [SN]) (by decide) ?_
 show W env Qay.B _ (Qf [.t 3] [false] _)
 unfold Qay.B
 injection H with H;subst H
 try simp only [TN,simprocAttr, *]
 try rfl
end Go.Proofs.YtallpjhkmcgpoaaGreat.P
end
section
namespace Go.Proofs.YtallpjhkmcgpoaaGreat.P
open Go Go.RowKit Go.Proofs.YtallpjhkmcgpoaaGreat.V
def Qh.l0:Nat→(List S40)→Int→Int→Int→Option Int
 | 0,_,_,_,_=>none
 | k+1,l0,x7,x8,g1_0_0=>if x8<x7 then (if 0≤x8 then (if x8<(l0.length:Int) then ((Qay.f ((Qah l0 x8).f0) ((Qah l0 x8).f1) g1_0_0).bind fun t1=>(if t1=true then (some x8) else (Qh.l0 k l0 x7 (wrap64 (x8+1)) g1_0_0))) else none) else none) else (some (-1))
def Qh.f (k:Nat) (l0:List S40) (g1_0_0:Int):Option Int:=Qh.l0 k l0 (l0.length:Int) 0 g1_0_0
def Qh.P0 (k:Nat):Prop:=∀ (l0:List S40) (x7:Int) (x8:Int) (g1_0_0:Int) (r:Int),Qh.l0 k l0 x7 x8 g1_0_0=some r→∀ st,canon 5 [0,1,7,8] st=⟨Qav [(0, .slc 0 [] 0 2 0 l0.length),(1, .fn 56 [.ptr 1 [] 0 0 0]),(7, .i .i64 x7),(8, .i .i64 x8)],rsL [(0,some ⟨false,2,0,(l0.map e40)⟩),(1,some ⟨false,1,0,[[.i .i64 g1_0_0]]⟩),(2,none),(3,none),(4,none)],5⟩→W env Qh.c1 st (Qb 0 (Qs env Qh.c0 (Qf [.t 4] [false,false] ([.i .i64 r],[none,none]))))
theorem Qh.s0 (k:Nat) (ih:Qh.P0 k):Qh.P0 (k+1):=by
 intro l0 x7 x8 g1_0_0 r H st hst
 rw [Qh.l0] at H
 rw [Qat (show Qh.c1=C.loop 5 [0,1,7,8] Qh.d1 from rfl),hst]
 unfold Qh.d1
 try simp only [TN,simprocAttr, *, Qh.c0]
 rcases Qad H with ⟨h1,H⟩|⟨h1,H⟩
 ·skip
  obtain ⟨h2,h3,H⟩:=i2 H
  obtain ⟨t1,e4,H⟩:=Qp H
  have e4:=Qay.link e4
  try simp only [TN,simprocAttr, *, Qh.c0]
  rcases QaN H with ⟨h5,H⟩|⟨h5,H⟩
  ·skip
   injection H with H;subst H
   try simp only [TN,simprocAttr, *, Qh.c0]
   try rfl
  ·skip
   try simp only [TN,simprocAttr, *, Qh.c0]
   refine ih _ _ _ _ _ H _ ?_
   first|(rw [Qc];done)|(rw [Qc];rfl)|(rw [Qc];simp only [LL];rfl)
 ·skip
  injection H with H;subst H
  try simp only [TN,simprocAttr, *, Qh.c0]
  try rfl
theorem Qh.w:∀ k,Qh.P0 k:=by
 intro k
 induction k with
 | zero=>exact by intro l0 x7 x8 g1_0_0 r H;cases (show (none:Option Int)=some r from H)
 | succ k ih=>exact Qh.s0 k ih
theorem Qh.link {k:Nat} {l0:List S40} {g1_0_0:Int} {r:Int} (H:Qh.f k l0 g1_0_0=some r):Qao env 95 [.deep false true 2 (l0.map e40), .fn 56 [.deep true true 1 [[.i .i64 g1_0_0]]]]=some ([.i .i64 r],[none,none]):=by
 unfold Qh.f at H
 refine QM (F:=Qh.F) (tm:=Qav [(0, .slc 0 [] 0 2 0 l0.length),(1, .fn 56 [.ptr 1 [] 0 0 0])]) (rs:=rsL [(0,some ⟨false,2,0,(l0.map e40)⟩),(1,some ⟨false,1,0,[[.i .i64 g1_0_0]]⟩)]) (nx:=2) (ow:=[false,false]) rfl (by rfl) (by simp only [SN,Qfr,Qfq,rsA,List.map_cons,List.map_nil,List.length_cons,List.length_nil,Bool.not_true,List.cons_append,List.nil_append]) (by simp only [SN,Qfr,Qfq,rsA,List.map_cons,List.map_nil,List.length_cons,List.length_nil,Bool.not_true,List.cons_append,List.nil_append]) (by decide) ?_
 show W env Qh.B _ (Qf [.t 4] [false,false] _)
 unfold Qh.B
 try simp only [TN,simprocAttr, *, Qh.c0]
 refine (Qh.w k) _ _ _ _ _ H _ ?_
 first|(rw [Qc];done)|(rw [Qc];rfl)|(rw [Qc];simp only [LL];rfl)
end Go.Proofs.YtallpjhkmcgpoaaGreat.P
end
section
namespace Go.Proofs.YtallpjhkmcgpoaaGreat.P
open Go Go.RowKit Go.Proofs.YtallpjhkmcgpoaaGreat.V
def QL.f (k:Nat) (l0:List S40) (g1_0_0:Int):Option Bool:=(Qh.f k l0 g1_0_0).bind fun t1=>(some (decide (t1≥0)))
theorem QL.link {k:Nat} {l0:List S40} {g1_0_0:Int} {r:Bool} (H:QL.f k l0 g1_0_0=some r):Qao env 55 [.deep false true 2 (l0.map e40), .fn 56 [.deep true true 1 [[.i .i64 g1_0_0]]]]=some ([.b r],[none,none]):=by
 unfold QL.f at H
 refine QM (F:=QL.F) (tm:=Qav [(0, .slc 0 [] 0 2 0 l0.length),(1, .fn 56 [.ptr 1 [] 0 0 0])]) (rs:=rsL [(0,some ⟨false,2,0,(l0.map e40)⟩),(1,some ⟨false,1,0,[[.i .i64 g1_0_0]]⟩)]) (nx:=2) (ow:=[false,false]) rfl (by rfl) (by simp only [SN,Qfr,Qfq,rsA,List.map_cons,List.map_nil,List.length_cons,List.length_nil,Bool.not_true,List.cons_append,List.nil_append]) (by simp only [SN,Qfr,Qfq,rsA,List.map_cons,List.map_nil,List.length_cons,List.length_nil,Bool.not_true,List.cons_append,List.nil_append]) (by decide) ?_
 show W env QL.B _ (Qf [.t 4] [false,false] _)
 unfold QL.B
 obtain ⟨t1,e1,H⟩:=Qp H
 have e1:=Qh.link e1
 injection H with H;subst H
 try simp only [TN,simprocAttr, *]
 try rfl
end Go.Proofs.YtallpjhkmcgpoaaGreat.P
end
section
namespace Go.Proofs.YtallpjhkmcgpoaaGreat.P
open Go Go.RowKit Go.Proofs.YtallpjhkmcgpoaaGreat.V
def Qax.f (a0_0:Int) (a0_1:Int) (v0_0:Int):Option Bool:=some (a0_1 == v0_0)
theorem Qax.link {a0_0:Int} {a0_1:Int} {v0_0:Int} {r:Bool} (H:Qax.f a0_0 a0_1 v0_0=some r):Qao env 57 [.agg [.i .i64 a0_0, .i .i64 a0_1], .deep true true 1 [[.i .i64 v0_0]]]=some ([.b r],[none]):=by
 unfold Qax.f at H
 refine QM (F:=Qax.F) (tm:=Qav [(0, .agg [.i .i64 a0_0, .i .i64 a0_1]),(1, .ptr 0 [] 0 0 0)]) (rs:=rsL [(0,some ⟨false,1,0,[[.i .i64 v0_0]]⟩)]) (nx:=1) (ow:=[false]) rfl (by rfl) (by simp only [SN]) (by simp only [SN]) (by decide) ?_
 show W env Qax.B _ (Qf [.t 3] [false] _)
 unfold Qax.B
 injection H with H;subst H
 try simp only [TN,simprocAttr, *]
 try rfl
end Go.Proofs.YtallpjhkmcgpoaaGreat.P
end
section
namespace Go.Proofs.YtallpjhkmcgpoaaGreat.P
open Go Go.RowKit Go.Proofs.YtallpjhkmcgpoaaGreat.V
def Qg.l0:Nat→(List S40)→Int→Int→Int→Option Int
 | 0,_,_,_,_=>none
 | k+1,l0,x7,x8,g1_0_0=>if x8<x7 then (if 0≤x8 then (if x8<(l0.length:Int) then ((Qax.f ((Qah l0 x8).f0) ((Qah l0 x8).f1) g1_0_0).bind fun t1=>(if t1=true then (some x8) else (Qg.l0 k l0 x7 (wrap64 (x8+1)) g1_0_0))) else none) else none) else (some (-1))
def Qg.f (k:Nat) (l0:List S40) (g1_0_0:Int):Option Int:=Qg.l0 k l0 (l0.length:Int) 0 g1_0_0
def Qg.P0 (k:Nat):Prop:=∀ (l0:List S40) (x7:Int) (x8:Int) (g1_0_0:Int) (r:Int),Qg.l0 k l0 x7 x8 g1_0_0=some r→∀ st,canon 5 [0,1,7,8] st=⟨Qav [(0, .slc 0 [] 0 2 0 l0.length),(1, .fn 57 [.ptr 1 [] 0 0 0]),(7, .i .i64 x7),(8, .i .i64 x8)],rsL [(0,some ⟨false,2,0,(l0.map e40)⟩),(1,some ⟨false,1,0,[[.i .i64 g1_0_0]]⟩),(2,none),(3,none),(4,none)],5⟩→W env Qg.c1 st (Qb 0 (Qs env Qg.c0 (Qf [.t 4] [false,false] ([.i .i64 r],[none,none]))))
theorem Qg.s0 (k:Nat) (ih:Qg.P0 k):Qg.P0 (k+1):=by
 intro l0 x7 x8 g1_0_0 r H st hst
 rw [Qg.l0] at H
 rw [Qat (show Qg.c1=C.loop 5 [0,1,7,8] Qg.d1 from rfl),hst]
 unfold Qg.d1
 try simp only [TN,simprocAttr, *, Qg.c0]
 rcases Qad H with ⟨h1,H⟩|⟨h1,H⟩
 ·skip
  obtain ⟨h2,h3,H⟩:=i2 H
  obtain ⟨t1,e4,H⟩:=Qp H
  have e4:=Qax.link e4
  try simp only [TN,simprocAttr, *, Qg.c0]
  rcases QaN H with ⟨h5,H⟩|⟨h5,H⟩
  ·skip
   injection H with H;subst H
   try simp only [TN,simprocAttr, *, Qg.c0]
   try rfl
  ·skip
   try simp only [TN,simprocAttr, *, Qg.c0]
   refine ih _ _ _ _ _ H _ ?_
   first|(rw [Qc];done)|(rw [Qc];rfl)|(rw [Qc];simp only [LL];rfl)
 ·skip
  injection H with H;subst H
  try simp only [TN,simprocAttr, *, Qg.c0]
  try rfl
theorem Qg.w:∀ k,Qg.P0 k:=by
 intro k
 induction k with
 | zero=>exact by intro l0 x7 x8 g1_0_0 r H;cases (show (none:Option Int)=some r from H)
 | succ k ih=>exact Qg.s0 k ih
theorem Qg.link {k:Nat} {l0:List S40} {g1_0_0:Int} {r:Int} (H:Qg.f k l0 g1_0_0=some r):Qao env 95 [.deep false true 2 (l0.map e40), .fn 57 [.deep true true 1 [[.i .i64 g1_0_0]]]]=some ([.i .i64 r],[none,none]):=by
 unfold Qg.f at H
 refine QM (F:=Qg.F) (tm:=Qav [(0, .slc 0 [] 0 2 0 l0.length),(1, .fn 57 [.ptr 1 [] 0 0 0])]) (rs:=rsL [(0,some ⟨false,2,0,(l0.map e40)⟩),(1,some ⟨false,1,0,[[.i .i64 g1_0_0]]⟩)]) (nx:=2) (ow:=[false,false]) rfl (by rfl) (by simp only [SN,Qfr,Qfq,rsA,List.map_cons,List.map_nil,List.length_cons,List.length_nil,Bool.not_true,List.cons_append,List.nil_append]) (by simp only [SN,Qfr,Qfq,rsA,List.map_cons,List.map_nil,List.length_cons,List.length_nil,Bool.not_true,List.cons_append,List.nil_append]) (by decide) ?_
 show W env Qg.B _ (Qf [.t 4] [false,false] _)
 unfold Qg.B
 try simp only [TN,simprocAttr, *, Qg.c0]
 refine (Qg.w k) _ _ _ _ _ H _ ?_
 first|(rw [Qc];done)|(rw [Qc];rfl)|(rw [Qc];simp only [LL];rfl)
end Go.Proofs.YtallpjhkmcgpoaaGreat.P
end
section
namespace Go.Proofs.YtallpjhkmcgpoaaGreat.P
open Go Go.RowKit Go.Proofs.YtallpjhkmcgpoaaGreat.V
def QK.f (k:Nat) (l0:List S40) (g1_0_0:Int):Option Bool:=(Qg.f k l0 g1_0_0).bind fun t1=>(some (decide (t1≥0)))
theorem QK.link {k:Nat} {l0:List S40} {g1_0_0:Int} {r:Bool} (H:QK.f k l0 g1_0_0=some r):Qao env 55 [.deep false true 2 (l0.map e40), .fn 57 [.deep true true 1 [[.i .i64 g1_0_0]]]]=some ([.b r],[none,none]):=by
 unfold QK.f at H
 refine QM (F:=QK.F) (tm:=Qav [(0, .slc 0 [] 0 2 0 l0.length),(1, .fn 57 [.ptr 1 [] 0 0 0])]) (rs:=rsL [(0,some ⟨false,2,0,(l0.map e40)⟩),(1,some ⟨false,1,0,[[.i .i64 g1_0_0]]⟩)]) (nx:=2) (ow:=[false,false]) rfl (by rfl) (by simp only [SN,Qfr,Qfq,rsA,List.map_cons,List.map_nil,List.length_cons,List.length_nil,Bool.not_true,List.cons_append,List.nil_append]) (by simp only [SN,Qfr,Qfq,rsA,List.map_cons,List.map_nil,List.length_cons,List.length_nil,Bool.not_true,List.cons_append,List.nil_append]) (by decide) ?_
 show W env QK.B _ (Qf [.t 4] [false,false] _)
 unfold QK.B
 obtain ⟨t1,e1,H⟩:=Qp H
 have e1:=Qg.link e1
 injection H with H;subst H
 try simp only [TN,simprocAttr, *]
 try rfl
end Go.Proofs.YtallpjhkmcgpoaaGreat.P
end
section
namespace Go.Proofs.YtallpjhkmcgpoaaGreat.P
open Go Go.RowKit Go.Proofs.YtallpjhkmcgpoaaGreat.V
mutual
def Qi.l0:Nat→(List S38)→(List S38)→(List S40)→(List Int)→(List Int)→(List Int)→Int→(List S38)→Int→Int→Option Int
 | 0,_,_,_,_,_,_,_,_,_,_=>none
 | k+1,l0,l1,l3,l2_0,l2_1,l2_2,x9,x26,x27,x28=>if x28<x27 then (if 0≤x28 then (if x28<(l0.length:Int) then ((QL.f k l3 x28).bind fun t3=>(if t3=true then (Qi.l0 k l0 l1 l3 l2_0 l2_1 l2_2 x9 l0 x27 (wrap64 (x28+1))) else (if 0≤(Qac l0 x28).f0 then (if (Qac l0 x28).f0<(l2_0.length:Int) then (Qi.l0 k l0 l1 l3 l2_0 l2_1 l2_2 (wrap64 (x9+(rd l2_0 ((Qac l0 x28).f0)))) l0 x27 (wrap64 (x28+1))) else none) else none))) else none) else none) else (Qi.l1 k l0 l1 l3 l2_0 l2_1 l2_2 x9 l1 (l1.length:Int) 0)
def Qi.l1:Nat→(List S38)→(List S38)→(List S40)→(List Int)→(List Int)→(List Int)→Int→(List S38)→Int→Int→Option Int
 | 0,_,_,_,_,_,_,_,_,_,_=>none
 | k+1,l0,l1,l3,l2_0,l2_1,l2_2,x9,x46,x47,x48=>if x48<x47 then (if 0≤x48 then (if x48<(l1.length:Int) then ((QK.f k l3 x48).bind fun t4=>(if t4=true then (Qi.l1 k l0 l1 l3 l2_0 l2_1 l2_2 x9 l1 x47 (wrap64 (x48+1))) else (if 0≤(Qac l1 x48).f0 then (if (Qac l1 x48).f0<(l2_1.length:Int) then (Qi.l1 k l0 l1 l3 l2_0 l2_1 l2_2 (wrap64 (x9+(rd l2_1 ((Qac l1 x48).f0)))) l1 x47 (wrap64 (x48+1))) else none) else none))) else none) else none) else (Qi.l2 k l0 l1 l2_0 l2_1 l2_2 x9 l3 (l3.length:Int) 0)
def Qi.l2:Nat→(List S38)→(List S38)→(List Int)→(List Int)→(List Int)→Int→(List S40)→Int→Int→Option Int
 | 0,_,_,_,_,_,_,_,_,_=>none
 | k+1,l0,l1,l2_0,l2_1,l2_2,x9,l3,x67,x68=>if x68<x67 then (if 0≤x68 then (if x68<(l3.length:Int) then (if 0≤(Qah l3 x68).f0 then (if (Qah l3 x68).f0<(l0.length:Int) then (if 0≤(Qah l3 x68).f1 then (if (Qah l3 x68).f1<(l1.length:Int) then ((QaV.f k l2_0 l2_1 l2_2 ((Qac l0 ((Qah l3 x68).f0)).f0) ((Qac l1 ((Qah l3 x68).f1)).f0)).bind fun t5=>(Qi.l2 k l0 l1 l2_0 l2_1 l2_2 (wrap64 (x9+t5)) l3 x67 (wrap64 (x68+1)))) else none) else none) else none) else none) else none) else none) else (some x9)
end
def Qi.f (k:Nat) (l0:List S38) (l1:List S38) (l2_0:List Int) (l2_1:List Int) (l2_2:List Int) (l3:List S40):Option Int:=(Qt.f k l0 l1 l3).bind fun t1=>(if t1=true then ((QP.f k l2_0 l2_1 l2_2).bind fun t2=>(if t2=true then (Qi.l0 k l0 l1 l3 l2_0 l2_1 l2_2 0 l0 (l0.length:Int) 0) else (some (-1)))) else (some (-1)))
def Qi.P0 (k:Nat):Prop:=∀ (l0:List S38) (l1:List S38) (l3:List S40) (l2_0:List Int) (l2_1:List Int) (l2_2:List Int) (x9:Int) (x26:List S38) (x27:Int) (x28:Int) (r:Int),l0=x26→Qi.l0 k l0 l1 l3 l2_0 l2_1 l2_2 x9 x26 x27 x28=some r→∀ st,canon 6 [0,1,3,6,9,26,27,28] st=⟨Qav [(0, .slc 0 [] 0 2 0 l0.length),(1, .slc 1 [] 0 2 0 l1.length),(3, .slc 5 [] 0 2 0 l3.length),(6, .bx [.slc 2 [] 0 1 0 l2_0.length, .slc 3 [] 0 1 0 l2_1.length, .slc 4 [] 0 1 0 l2_2.length] 0),(9, .i .i64 x9),(26, .slc 0 [] 0 2 0 l0.length),(27, .i .i64 x27),(28, .i .i64 x28)],rsL [(0,some ⟨false,2,0,(l0.map e38)⟩),(1,some ⟨false,2,0,(l1.map e38)⟩),(2,some ⟨false,1,0,(l2_0.map eI)⟩),(3,some ⟨false,1,0,(l2_1.map eI)⟩),(4,some ⟨false,1,0,(l2_2.map eI)⟩),(5,some ⟨false,2,0,(l3.map e40)⟩)],6⟩→W env Qi.c1 st (Qb 0 (Qs env Qi.c0 (Qf [.t 8] [false,false,false,false,false,false] ([.i .i64 r],[none,none,none,none,none,none]))))
def Qi.P1 (k:Nat):Prop:=∀ (l0:List S38) (l1:List S38) (l3:List S40) (l2_0:List Int) (l2_1:List Int) (l2_2:List Int) (x9:Int) (x46:List S38) (x47:Int) (x48:Int) (r:Int),l1=x46→Qi.l1 k l0 l1 l3 l2_0 l2_1 l2_2 x9 x46 x47 x48=some r→∀ st,canon 6 [0,1,3,6,9,46,47,48] st=⟨Qav [(0, .slc 0 [] 0 2 0 l0.length),(1, .slc 1 [] 0 2 0 l1.length),(3, .slc 5 [] 0 2 0 l3.length),(6, .bx [.slc 2 [] 0 1 0 l2_0.length, .slc 3 [] 0 1 0 l2_1.length, .slc 4 [] 0 1 0 l2_2.length] 0),(9, .i .i64 x9),(46, .slc 1 [] 0 2 0 l1.length),(47, .i .i64 x47),(48, .i .i64 x48)],rsL [(0,some ⟨false,2,0,(l0.map e38)⟩),(1,some ⟨false,2,0,(l1.map e38)⟩),(2,some ⟨false,1,0,(l2_0.map eI)⟩),(3,some ⟨false,1,0,(l2_1.map eI)⟩),(4,some ⟨false,1,0,(l2_2.map eI)⟩),(5,some ⟨false,2,0,(l3.map e40)⟩)],6⟩→W env Qi.c3 st (Qb 2 (Qs env Qi.c2 (Qf [.t 8] [false,false,false,false,false,false] ([.i .i64 r],[none,none,none,none,none,none]))))
def Qi.P2 (k:Nat):Prop:=∀ (l0:List S38) (l1:List S38) (l2_0:List Int) (l2_1:List Int) (l2_2:List Int) (x9:Int) (l3:List S40) (x67:Int) (x68:Int) (r:Int),Qi.l2 k l0 l1 l2_0 l2_1 l2_2 x9 l3 x67 x68=some r→∀ st,canon 6 [0,1,6,9,66,67,68] st=⟨Qav [(0, .slc 0 [] 0 2 0 l0.length),(1, .slc 1 [] 0 2 0 l1.length),(6, .bx [.slc 2 [] 0 1 0 l2_0.length, .slc 3 [] 0 1 0 l2_1.length, .slc 4 [] 0 1 0 l2_2.length] 0),(9, .i .i64 x9),(66, .slc 5 [] 0 2 0 l3.length),(67, .i .i64 x67),(68, .i .i64 x68)],rsL [(0,some ⟨false,2,0,(l0.map e38)⟩),(1,some ⟨false,2,0,(l1.map e38)⟩),(2,some ⟨false,1,0,(l2_0.map eI)⟩),(3,some ⟨false,1,0,(l2_1.map eI)⟩),(4,some ⟨false,1,0,(l2_2.map eI)⟩),(5,some ⟨false,2,0,(l3.map e40)⟩)],6⟩→W env Qi.c5 st (Qb 4 (Qs env Qi.c4 (Qf [.t 8] [false,false,false,false,false,false] ([.i .i64 r],[none,none,none,none,none,none]))))
theorem Qi.s0 (k:Nat) (ih:Qi.P0 k∧Qi.P1 k∧Qi.P2 k):Qi.P0 (k+1):=by
 intro l0 l1 l3 l2_0 l2_1 l2_2 x9 x26 x27 x28 r a0 H st hst
 subst a0
 rw [Qi.l0] at H
 rw [Qat (show Qi.c1=C.loop 6 [0,1,3,6,9,26,27,28] Qi.d1 from rfl),hst]
 unfold Qi.d1
 try simp only [TN,simprocAttr, *, Qi.c0,Qi.c2,Qi.c4]
 rcases Qad H with ⟨h1,H⟩|⟨h1,H⟩
 ·skip
  obtain ⟨h2,h3,H⟩:=i2 H
  obtain ⟨t3,e4,H⟩:=Qp H
  have e4:=QL.link e4
  try simp only [TN,simprocAttr, *, Qi.c0,Qi.c2,Qi.c4]
  rcases QaN H with ⟨h5,H⟩|⟨h5,H⟩
  ·skip
   try simp only [TN,simprocAttr, *, Qi.c0,Qi.c2,Qi.c4]
   refine ih.1 _ _ _ _ _ _ _ _ _ _ _ rfl H _ ?_
   first|(rw [Qc];done)|(rw [Qc];rfl)|(rw [Qc];simp only [LL];rfl)
  ·skip
   obtain ⟨h6,h7,H⟩:=i2 H
   try simp only [TN,simprocAttr, *, Qi.c0,Qi.c2,Qi.c4]
   refine ih.1 _ _ _ _ _ _ _ _ _ _ _ rfl H _ ?_
   first|(rw [Qc];done)|(rw [Qc];rfl)|(rw [Qc];simp only [LL];rfl)
 ·skip
  try simp only [TN,simprocAttr, *, Qi.c0,Qi.c2,Qi.c4]
  refine ih.2.1 _ _ _ _ _ _ _ _ _ _ _ rfl H _ ?_
  first|(rw [Qc];done)|(rw [Qc];rfl)|(rw [Qc];simp only [LL];rfl)
theorem Qi.s1 (k:Nat) (ih:Qi.P0 k∧Qi.P1 k∧Qi.P2 k):Qi.P1 (k+1):=by
 intro l0 l1 l3 l2_0 l2_1 l2_2 x9 x46 x47 x48 r a0 H st hst
 subst a0
 rw [Qi.l1] at H
 rw [Qat (show Qi.c3=C.loop 6 [0,1,3,6,9,46,47,48] Qi.d3 from rfl),hst]
 unfold Qi.d3
 try simp only [TN,simprocAttr, *, Qi.c0,Qi.c2,Qi.c4]
 rcases Qad H with ⟨h1,H⟩|⟨h1,H⟩
 ·skip
  obtain ⟨h2,h3,H⟩:=i2 H
  obtain ⟨t4,e4,H⟩:=Qp H
  have e4:=QK.link e4
  try simp only [TN,simprocAttr, *, Qi.c0,Qi.c2,Qi.c4]
  rcases QaN H with ⟨h5,H⟩|⟨h5,H⟩
  ·skip
   try simp only [TN,simprocAttr, *, Qi.c0,Qi.c2,Qi.c4]
   refine ih.2.1 _ _ _ _ _ _ _ _ _ _ _ rfl H _ ?_
   first|(rw [Qc];done)|(rw [Qc];rfl)|(rw [Qc];simp only [LL];rfl)
  ·skip
   obtain ⟨h6,h7,H⟩:=i2 H
   try simp only [TN,simprocAttr, *, Qi.c0,Qi.c2,Qi.c4]
   refine ih.2.1 _ _ _ _ _ _ _ _ _ _ _ rfl H _ ?_
   first|(rw [Qc];done)|(rw [Qc];rfl)|(rw [Qc];simp only [LL];rfl)
 ·skip
  try simp only [TN,simprocAttr, *, Qi.c0,Qi.c2,Qi.c4]
  refine ih.2.2 _ _ _ _ _ _ _ _ _ _ H _ ?_
  first|(rw [Qc];done)|(rw [Qc];rfl)|(rw [Qc];simp only [LL];rfl)
theorem Qi.s2 (k:Nat) (ih:Qi.P0 k∧Qi.P1 k∧Qi.P2 k):Qi.P2 (k+1):=by
 intro l0 l1 l2_0 l2_1 l2_2 x9 l3 x67 x68 r H st hst
 rw [Qi.l2] at H
 rw [Qat (show Qi.c5=C.loop 6 [0,1,6,9,66,67,68] Qi.d5 from rfl),hst]
 unfold Qi.d5
 try simp only [TN,simprocAttr, *, Qi.c0,Qi.c2,Qi.c4]
 rcases Qad H with ⟨h1,H⟩|⟨h1,H⟩
 ·skip
  obtain ⟨h2,h3,h4,h5,H⟩:=i4 H
  obtain ⟨h6,h7,H⟩:=i2 H
  obtain ⟨t5,e8,H⟩:=Qp H
  have e8:=QaV.link e8
  try simp only [TN,simprocAttr, *, Qi.c0,Qi.c2,Qi.c4]
  refine ih.2.2 _ _ _ _ _ _ _ _ _ _ H _ ?_
  first|(rw [Qc];done)|(rw [Qc];rfl)|(rw [Qc];simp only [LL];rfl)
 ·skip
  injection H with H;subst H
  try simp only [TN,simprocAttr, *, Qi.c0,Qi.c2,Qi.c4]
  try rfl
theorem Qi.w:∀ k,Qi.P0 k∧Qi.P1 k∧Qi.P2 k:=by
 intro k
 induction k with
 | zero=>exact ⟨(by intro l0 l1 l3 l2_0 l2_1 l2_2 x9 x26 x27 x28 r _ H;cases (show (none:Option Int)=some r from H)),(by intro l0 l1 l3 l2_0 l2_1 l2_2 x9 x46 x47 x48 r _ H;cases (show (none:Option Int)=some r from H)),(by intro l0 l1 l2_0 l2_1 l2_2 x9 l3 x67 x68 r H;cases (show (none:Option Int)=some r from H))⟩
 | succ k ih=>exact ⟨(Qi.s0 k ih),(Qi.s1 k ih),(Qi.s2 k ih)⟩
theorem Qi.link {k:Nat} {l0:List S38} {l1:List S38} {l2_0:List Int} {l2_1:List Int} {l2_2:List Int} {l3:List S40} {r:Int} (H:Qi.f k l0 l1 l2_0 l2_1 l2_2 l3=some r):Qao env 16 [.deep false true 2 (l0.map e38), .deep false true 2 (l1.map e38), .agg [.deep false true 1 (l2_0.map eI), .deep false true 1 (l2_1.map eI), .deep false true 1 (l2_2.map eI)], .deep false true 2 (l3.map e40)]=some ([.i .i64 r],[none,none,none,none,none,none]):=by
 unfold Qi.f at H
 refine QM (F:=Qi.F) (tm:=Qav [(0, .slc 0 [] 0 2 0 l0.length),(1, .slc 1 [] 0 2 0 l1.length),(2, .agg [.slc 2 [] 0 1 0 l2_0.length, .slc 3 [] 0 1 0 l2_1.length, .slc 4 [] 0 1 0 l2_2.length]),(3, .slc 5 [] 0 2 0 l3.length)]) (rs:=rsL [(0,some ⟨false,2,0,(l0.map e38)⟩),(1,some ⟨false,2,0,(l1.map e38)⟩),(2,some ⟨false,1,0,(l2_0.map eI)⟩),(3,some ⟨false,1,0,(l2_1.map eI)⟩),(4,some ⟨false,1,0,(l2_2.map eI)⟩),(5,some ⟨false,2,0,(l3.map e40)⟩)]) (nx:=6) (ow:=[false,false,false,false,false,false]) rfl (by rfl) (by simp only [SN]) (by simp only [SN]) (by decide) ?_
 show W env Qi.B _ (Qf [.t 8] [false,false,false,false,false,false] _)
 unfold Qi.B
 obtain ⟨t1,e1,H⟩:=Qp H
 have e1:=Qt.link e1
 try simp only [TN,simprocAttr, *, Qi.c0,Qi.c2,Qi.c4]
 rcases QaN H with ⟨h2,H⟩|⟨h2,H⟩
 ·skip
  obtain ⟨t2,e3,H⟩:=Qp H
  have e3:=QP.link e3
  try simp only [TN,simprocAttr, *, Qi.c0,Qi.c2,Qi.c4]
  rcases QaN H with ⟨h4,H⟩|⟨h4,H⟩
  ·skip
   try simp only [TN,simprocAttr, *, Qi.c0,Qi.c2,Qi.c4]
   refine (Qi.w k).1 _ _ _ _ _ _ _ _ _ _ _ rfl H _ ?_
   first|(rw [Qc];done)|(rw [Qc];rfl)|(rw [Qc];simp only [LL];rfl)
  ·skip
   injection H with H;subst H
   try simp only [TN,simprocAttr, *, Qi.c0,Qi.c2,Qi.c4]
   try rfl
 ·skip
  injection H with H;subst H
  try simp only [TN,simprocAttr, *, Qi.c0,Qi.c2,Qi.c4]
  try rfl
end Go.Proofs.YtallpjhkmcgpoaaGreat.P
end
section
namespace Go.Proofs.YtallpjhkmcgpoaaGreat.P
open Go Go.RowKit Go.Proofs.YtallpjhkmcgpoaaGreat.V
def Qv.l0:Nat→(List S38)→(List S38)→(List S40)→(List S67)→(List S38)→Int→Int→Int→Int→(List Int)→(List Int)→(List Int)→(List Int)→Option Bool
 | 0,_,_,_,_,_,_,_,_,_,_,_,_,_=>none
 | k+1,x3,x4,x6,x7,x8,x9,x10,x11,x12,l0,c3_0,c3_1,c3_2=>if x12<(x6.length:Int) then (if 0≤x12 then (if 0≤(Qah x6 x12).f0 then (if (Qah x6 x12).f0<(x3.length:Int) then (if 0≤(Qah x6 x12).f1 then (if (Qah x6 x12).f1<(x4.length:Int) then (if ((Qac x3 ((Qah x6 x12).f0)).f0)=((Qac x4 ((Qah x6 x12).f1)).f0) then (Qv.l0 k x3 x4 x6 x7 x8 x9 x10 x11 (wrap64 (x12+1)) l0 c3_0 c3_1 c3_2) else (Qv.l0 k x3 x4 x6 x7 x8 x9 x10 (wrap64 (x11+1)) (wrap64 (x12+1)) l0 c3_0 c3_1 c3_2)) else none) else none) else none) else none) else none) else (if x10=0 then (if x9=(x7.length:Int) then ((QQ.f k x8 x4).bind fun t7=>(if t7=true then ((QT.f k x7).bind fun t8=>(if t8=true then ((QH.f k x7 1).bind fun t9=>(if t9=x11 then ((QH.f k x7 2).bind fun t10=>(if t10=(wrap64 ((x3.length:Int)-(x6.length:Int))) then ((QH.f k x7 3).bind fun t11=>(if t11=(wrap64 ((x4.length:Int)-(x6.length:Int))) then ((QX.f k c3_0 c3_1 c3_2).bind fun t12=>(if t12=true then ((Qy.f k x3 x7 c3_0 c3_1 c3_2).bind fun t13=>((Qi.f k x3 x4 c3_0 c3_1 c3_2 x6).bind fun t14=>(some (t13 == t14)))) else (some true))) else (some false))) else (some false))) else (some false))) else (some false))) else (some false))) else (some false)) else (some false))
def Qv.f (k:Nat) (l0:List Int):Option Bool:=(Qb5.f l0).bind fun t1=>(if t1=true then (some true) else ((QaD.f k l0).bind fun bt2=>((Qa.f k bt2.1 bt2.2.1 bt2.2.2.2.2.2).bind fun t3=>((Qu.f k bt2.1 bt2.2.1 bt2.2.2.2.2.2).bind fun t4=>(if t4=true then ((QaC.f bt2.2.2.2.2.2).bind fun t5=>(if t5=true then ((QR.f k bt2.1 t3).bind fun bt6=>(Qv.l0 k bt2.1 bt2.2.1 bt2.2.2.2.2.2 t3 bt6.1 bt6.2.1 bt6.2.2 0 0 l0 bt2.2.2.1 bt2.2.2.2.1 bt2.2.2.2.2.1)) else (some ((t3.length:Int) == 0)))) else (some ((t3.length:Int) == 0)))))))
def Qv.P0 (k:Nat):Prop:=∀ (x3:List S38) (x4:List S38) (x6:List S40) (x7:List S67) (x8:List S38) (x9:Int) (x10:Int) (x11:Int) (x12:Int) (l0:List Int) (c3_0:List Int) (c3_1:List Int) (c3_2:List Int) (r:Bool),Qv.l0 k x3 x4 x6 x7 x8 x9 x10 x11 x12 l0 c3_0 c3_1 c3_2=some r→∀ st,canon 1 [3,4,5,6,7,8,9,10,11,12] st=⟨Qav [(3, .slc 1 [] 0 2 0 x3.length),(4, .slc 2 [] 0 2 0 x4.length),(5, .ptr 3 [] 0 0 0),(6, .slc 4 [] 0 2 0 x6.length),(7, .slc 5 [] 0 5 0 x7.length),(8, .slc 6 [] 0 2 0 x8.length),(9, .i .i64 x9),(10, .i .i64 x10),(11, .i .i64 x11),(12, .i .i64 x12)],rsL [(0,some ⟨false,1,0,(l0.map e8)⟩),(1,some ⟨true,2,0,(x3.map e38)⟩),(2,some ⟨true,2,0,(x4.map e38)⟩),(3,some ⟨true,3,0,[[.deep false false 1 (c3_0.map eI), .deep false false 1 (c3_1.map eI), .deep false false 1 (c3_2.map eI)]]⟩),(4,some ⟨true,2,0,(x6.map e40)⟩),(5,some ⟨true,5,0,(x7.map (e67 false))⟩),(6,some ⟨true,2,0,(x8.map e38)⟩)],7⟩→W env Qv.c1 st (Qb 0 (Qs env Qv.c0 (Qf [.t 2] [false] ([.b r],[none]))))
theorem Qv.s0 (k:Nat) (ih:Qv.P0 k):Qv.P0 (k+1):=by
 intro x3 x4 x6 x7 x8 x9 x10 x11 x12 l0 c3_0 c3_1 c3_2 r H st hst
 rw [Qv.l0] at H
 rw [Qat (show Qv.c1=C.loop 1 [3,4,5,6,7,8,9,10,11,12] Qv.d1 from rfl),hst]
 unfold Qv.d1
 try simp only [TN,simprocAttr, *, Qv.c0]
 rcases Qad H with ⟨h1,H⟩|⟨h1,H⟩
 ·skip
  obtain ⟨h2,h3,h4,h5,H⟩:=i4 H
  obtain ⟨h6,H⟩:=i1 H
  try simp only [TN,simprocAttr, *, Qv.c0]
  rcases ioq H with ⟨h7,H⟩|⟨h7,H⟩
  ·skip
   try simp only [TN,simprocAttr, *, Qv.c0]
   refine ih _ _ _ _ _ _ _ _ _ _ _ _ _ _ H _ ?_
   first|(rw [Qc];done)|(rw [Qc];rfl)|(rw [Qc];simp only [LL];rfl)
  ·skip
   try simp only [TN,simprocAttr, *, Qv.c0]
   refine ih _ _ _ _ _ _ _ _ _ _ _ _ _ _ H _ ?_
   first|(rw [Qc];done)|(rw [Qc];rfl)|(rw [Qc];simp only [LL];rfl)
 ·skip
  try simp only [TN,simprocAttr, *, Qv.c0]
  rcases ioq H with ⟨h8,H⟩|⟨h8,H⟩
  ·skip
   try simp only [TN,simprocAttr, *, Qv.c0]
   rcases ioq H with ⟨h9,H⟩|⟨h9,H⟩
   ·skip
    obtain ⟨t7,e10,H⟩:=Qp H
    have e10:=QQ.link e10
    try simp only [TN,simprocAttr, *, Qv.c0]
    rcases QaN H with ⟨h11,H⟩|⟨h11,H⟩
    ·skip
     obtain ⟨t8,e12,H⟩:=Qp H
     have e12:=QT.link e12
     try simp only [TN,simprocAttr, *, Qv.c0]
     rcases QaN H with ⟨h13,H⟩|⟨h13,H⟩
     ·skip
      obtain ⟨t9,e14,H⟩:=Qp H
      have e14:=QH.link e14
      try simp only [TN,simprocAttr, *, Qv.c0]
      rcases ioq H with ⟨h15,H⟩|⟨h15,H⟩
      ·skip
       obtain ⟨t10,e16,H⟩:=Qp H
       have e16:=QH.link e16
       try simp only [TN,simprocAttr, *, Qv.c0]
       rcases ioq H with ⟨h17,H⟩|⟨h17,H⟩
       ·skip
        obtain ⟨t11,e18,H⟩:=Qp H
        have e18:=QH.link e18
        try simp only [TN,simprocAttr, *, Qv.c0]
        rcases ioq H with ⟨h19,H⟩|⟨h19,H⟩
        ·skip
         obtain ⟨t12,e20,H⟩:=Qp H
         have e20:=QX.link e20
         try simp only [TN,simprocAttr, *, Qv.c0]
         rcases QaN H with ⟨h21,H⟩|⟨h21,H⟩
         ·skip
          obtain ⟨t13,e22,H⟩:=Qp H
          have e22:=Qy.link e22
          obtain ⟨t14,e23,H⟩:=Qp H
          have e23:=Qi.link e23
          injection H with H;subst H
          try simp only [TN,simprocAttr, *, Qv.c0]
          try rfl
         ·skip
          injection H with H;subst H
          try simp only [TN,simprocAttr, *, Qv.c0]
          try rfl
        ·skip
         injection H with H;subst H
         try simp only [TN,simprocAttr, *, Qv.c0]
         try rfl
       ·skip
        injection H with H;subst H
        try simp only [TN,simprocAttr, *, Qv.c0]
        try rfl
      ·skip
       injection H with H;subst H
       try simp only [TN,simprocAttr, *, Qv.c0]
       try rfl
     ·skip
      injection H with H;subst H
      try simp only [TN,simprocAttr, *, Qv.c0]
      try rfl
    ·skip
     injection H with H;subst H
     try simp only [TN,simprocAttr, *, Qv.c0]
     try rfl
   ·skip
    injection H with H;subst H
    try simp only [TN,simprocAttr, *, Qv.c0]
    try rfl
  ·skip
   injection H with H;subst H
   try simp only [TN,simprocAttr, *, Qv.c0]
   try rfl
theorem Qv.w:∀ k,Qv.P0 k:=by
 intro k
 induction k with
 | zero=>exact by intro x3 x4 x6 x7 x8 x9 x10 x11 x12 l0 c3_0 c3_1 c3_2 r H;cases (show (none:Option Bool)=some r from H)
 | succ k ih=>exact Qv.s0 k ih
theorem Qv.link {k:Nat} {l0:List Int} {r:Bool} (H:Qv.f k l0=some r):Qao env 3 [.deep false true 1 (l0.map e8)]=some ([.b r],[none]):=by
 unfold Qv.f at H
 refine QM (F:=Qv.F) (tm:=Qav [(0, .slc 0 [] 0 1 0 l0.length)]) (rs:=rsL [(0,some ⟨false,1,0,(l0.map e8)⟩)]) (nx:=1) (ow:=[false]) rfl (by rfl) (by simp only [SN]) (by simp only [SN]) (by decide) ?_
 show W env Qv.B _ (Qf [.t 2] [false] _)
 unfold Qv.B
 obtain ⟨t1,e1,H⟩:=Qp H
 have e1:=Qb5.link e1
 try simp only [TN,simprocAttr, *, Qv.c0]
 rcases QaN H with ⟨h2,H⟩|⟨h2,H⟩
 ·skip
  injection H with H;subst H
  try simp only [TN,simprocAttr, *, Qv.c0]
  try rfl
 ·skip
  obtain ⟨bt2,e3,H⟩:=Qp H
  have e3:=QaD.link e3
  obtain ⟨t3,e4,H⟩:=Qp H
  have e4:=Qa.link e4
  obtain ⟨t4,e5,H⟩:=Qp H
  have e5:=Qu.link e5
  try simp only [TN,simprocAttr, *, Qv.c0]
  rcases QaN H with ⟨h6,H⟩|⟨h6,H⟩
  ·skip
   obtain ⟨t5,e7,H⟩:=Qp H
   have e7:=QaC.link e7
   try simp only [TN,simprocAttr, *, Qv.c0]
   rcases QaN H with ⟨h8,H⟩|⟨h8,H⟩
   ·skip
    obtain ⟨bt6,e9,H⟩:=Qp H
    have e9:=QR.link e9
    try simp only [TN,simprocAttr, *, Qv.c0]
    refine (Qv.w k) _ _ _ _ _ _ _ _ _ _ _ _ _ _ H _ ?_
    first|(rw [Qc];done)|(rw [Qc];rfl)|(rw [Qc];simp only [LL];rfl)
   ·skip
    injection H with H;subst H
    try simp only [TN,simprocAttr, *, Qv.c0]
    try rfl
  ·skip
   injection H with H;subst H
   try simp only [TN,simprocAttr, *, Qv.c0]
   try rfl
end Go.Proofs.YtallpjhkmcgpoaaGreat.P
end
section
namespace Go.Proofs.YtallpjhkmcgpoaaGreat.B
open Go Go.RowKit Go.Proofs.YtallpjhkmcgpoaaGreat.V Go.Proofs.YtallpjhkmcgpoaaGreat.P
theorem wid {n:Int} (h0 : -9223372036854775808≤n) (h1:n≤9223372036854775807):wrap64 n=n:=by unfold wrap64;omega
theorem wsucc {i:Nat} (h:i<9223372036854775807):wrap64 ((i:Int)+1)=((i+1:Nat):Int):=by unfold wrap64;omega
theorem loop {ρ:Type} (g:Nat→Nat→ρ) (n:Nat) (R:Nat→ρ) (last:∀ k,g (k+1) n=R n)
 (step:∀ k i,i<n→(g k (i+1)=R (i+1))→g (k+1) i=R i):∀ k i,i≤n→n-i<k→g k i=R i:=by
 intro k
 induction k with
 | zero=>intro i _ h;omega
 | succ k ih =>
  intro i hi hk
  rcases Nat.lt_or_ge i n with hlt|hge
  ·exact step k i hlt (ih (i+1) hlt (by omega))
  ·obtain rfl:i=n:=by omega
   exact last k
theorem loopI {ρ:Type} (g:Nat→Nat→ρ) (n b:Nat) (I:Nat→Prop) (R:Nat→ρ) (last:∀ k,b≤k→I n→g (k+1) n=R n)
 (step:∀ k i,b≤k→i<n→I i→(I (i+1)→g k (i+1)=R (i+1))→g (k+1) i=R i):∀ k i,i≤n→I i→b+(n-i)<k→g k i=R i:=by
 intro k
 induction k with
 | zero=>intro i _ _ h;omega
 | succ k ih =>
  intro i hi hI hk
  rcases Nat.lt_or_ge i n with hlt|hge
  ·exact step k i (by omega) hlt hI (fun hI'=>ih (i+1) hlt hI' (by omega))
  ·obtain rfl:i=n:=by omega
   exact last k (by omega) hI
theorem getD_lt {α:Type} {xs:List α} {i:Nat} {z:α} (h:i<xs.length):xs.getD i z=xs[i]:=by
 rw [List.getD_eq_getElem?_getD,List.getElem?_eq_getElem h];rfl
def run (a:Int) (n:Nat):List Int:=(List.range n).map fun (i:Nat)=>a+(i:Int)
theorem take_snoc {α β:Type} (l:List α) (f:α→β) {i:Nat} (h:i<l.length):(l.take i).map f++[f l[i]]=(l.take (i+1)).map f:=by
 rw [List.take_succ_eq_append_getElem h,List.map_append];rfl
def idxFrom {α:Type} (p:α→Bool):List α→Nat→Int
 | [],_ => -1
 | x::xs,i=>if p x=true then (i:Int) else idxFrom p xs (i+1)
theorem idxFrom_drop {α:Type} (p:α→Bool) (l:List α) {i:Nat} (h:i<l.length):idxFrom p (l.drop i) i=if p l[i]=true then (i:Int) else idxFrom p (l.drop (i+1)) (i+1):=by
 rw [List.drop_eq_getElem_cons h];rfl
theorem idxFrom_any {α:Type} (p:α→Bool) (l:List α) (i:Nat):decide (idxFrom p l i≥0)=l.any p:=by
 induction l generalizing i with
 | nil=>rfl
 | cons x xs ih =>
  unfold idxFrom
  rw [List.any_cons]
  cases hp:p x with
  | true=>simp
  | false=>rw [if_neg (by simp),ih];simp
end Go.Proofs.YtallpjhkmcgpoaaGreat.B
end
section
namespace Go.Proofs.YtallpjhkmcgpoaaGreat.B
open Go Go.RowKit Go.Proofs.YtallpjhkmcgpoaaGreat.V Go.Proofs.YtallpjhkmcgpoaaGreat.P
def Ev {α:Type} (g:Nat→Option α) (v:α):Prop:=∃ K,∀ k,K≤k→g k=some v
theorem Ev.of {α:Type} {g:Nat→Option α} {v:α} (K:Nat) (h:∀ k,K<k→g k=some v):Ev g v:=⟨K+1,fun k hk=>h k hk⟩
theorem Ev.succ {α:Type} {g:Nat→Option α} {v:α} (h:Ev (fun k=>g (k+1)) v):Ev g v:=by
 obtain ⟨K,h⟩:=h
 refine ⟨K+1,fun k hk => ?_⟩
 obtain ⟨m,rfl⟩:∃ m,k=m+1:=⟨k-1,by omega⟩
 exact h m (by omega)
theorem Ev.pure {α:Type} (v:α):Ev (fun _=>some v) v:=⟨0,fun _ _=>rfl⟩
theorem Ev.bind {α β:Type} {f:Nat→Option α} {g:Nat→α→Option β} {a:α} {v:β} (hf:Ev f a) (hg:Ev (fun k=>g k a) v):Ev (fun k=>(f k).bind (g k)) v:=by
 obtain ⟨K,hf⟩:=hf
 obtain ⟨L,hg⟩:=hg
 refine ⟨K+L,fun k hk => ?_⟩
 show (f k).bind (g k)=some v
 rw [hf k (by omega),Option.bind_some]
 exact hg k (by omega)
theorem Ev.ite {α:Type} {p:Prop} [Decidable p] {f g:Nat→Option α} {v:α} (hf:p→Ev f v) (hg:¬p→Ev g v):Ev (fun k=>if p then f k else g k) v:=by
 by_cases h:p
 ·obtain ⟨K,hf⟩:=hf h;exact ⟨K,fun k hk=>by show (if p then f k else g k)=some v;rw [if_pos h];exact hf k hk⟩
 ·obtain ⟨K,hg⟩:=hg h;exact ⟨K,fun k hk=>by show (if p then f k else g k)=some v;rw [if_neg h];exact hg k hk⟩
theorem Ev.eq {α:Type} {g:Nat→Option α} {v w:α} (h:Ev g v) (e:v=w):Ev g w:=e▸h
theorem Ev.ex {α:Type} {g:Nat→Option α} {v:α} (h:Ev g v):∃ k,g k=some v:=by obtain ⟨K,h⟩:=h;exact ⟨K,h K (Nat.le_refl _)⟩
theorem Ev.loop {ρ:Type} {g:Nat→Nat→Option ρ} (n:Nat) (I:Nat→Prop) {v:ρ} (last:I n→Ev (fun k=>g k n) v)
 (step:∀ i,i<n→I i→(I (i+1)→Ev (fun k=>g k (i+1)) v)→Ev (fun k=>g k i) v):∀ i,i≤n→I i→Ev (fun k=>g k i) v:=by
 intro i hi
 obtain ⟨d,hd⟩:∃ d,n-i=d:=⟨_,rfl⟩
 induction d generalizing i with
 | zero =>
  obtain rfl:i=n:=by omega
  exact last
 | succ d ih=>exact fun hI=>step i (by omega) hI (ih (i+1) (by omega) (by omega))
end Go.Proofs.YtallpjhkmcgpoaaGreat.B
end
section
namespace Go.Proofs.YtallpjhkmcgpoaaGreat.B
open Go Go.RowKit Go.Proofs.YtallpjhkmcgpoaaGreat.V Go.Proofs.YtallpjhkmcgpoaaGreat.P
def EvP {α:Type} (g:Nat→Option α) (P:α→Prop):Prop:=∃ v,P v∧Ev g v
theorem EvP.of {α:Type} {g:Nat→Option α} {v:α} {P:α→Prop} (h:Ev g v) (p:P v):EvP g P:=⟨v,p,h⟩
theorem EvP.pure {α:Type} {v:α} {P:α→Prop} (p:P v):EvP (fun _=>some v) P:=⟨v,p,Ev.pure v⟩
theorem EvP.mono {α:Type} {g:Nat→Option α} {P Q:α→Prop} (h:EvP g P) (q:∀ v,P v→Q v):EvP g Q:=by
 obtain ⟨v,p,h⟩:=h;exact ⟨v,q v p,h⟩
theorem EvP.succ {α:Type} {g:Nat→Option α} {P:α→Prop} (h:EvP (fun k=>g (k+1)) P):EvP g P:=by
 obtain ⟨v,p,h⟩:=h;exact ⟨v,p,Ev.succ h⟩
theorem EvP.bind {α β:Type} {f:Nat→Option α} {g:Nat→α→Option β} {P:α→Prop} {Q:β→Prop} (hf:EvP f P) (hg:∀ v,P v→EvP (fun k=>g k v) Q):EvP (fun k=>(f k).bind (g k)) Q:=by
 obtain ⟨v,p,h⟩:=hf
 obtain ⟨u,q,h'⟩:=hg v p
 exact ⟨u,q,Ev.bind h h'⟩
theorem EvP.ite {α:Type} {p:Prop} [Decidable p] {f g:Nat→Option α} {P:α→Prop} (hf:p→EvP f P) (hg:¬p→EvP g P):EvP (fun k=>if p then f k else g k) P:=by
 by_cases h:p
 ·obtain ⟨v,q,e⟩:=hf h;exact ⟨v,q,Ev.ite (fun _=>e) (fun c=>absurd h c)⟩
 ·obtain ⟨v,q,e⟩:=hg h;exact ⟨v,q,Ev.ite (fun c=>absurd c h) (fun _=>e)⟩
theorem EvP.ev {α:Type} {g:Nat→Option α} {P:α→Prop} (h:EvP g P):∃ v,P v∧Ev g v:=h
def Cu (b:List Int) {α:Type} (Q:α→Prop) (t:α×Int×Int):Prop:=Q t.1∧0≤t.2.1∧t.2.1≤(b.length:Int)
end Go.Proofs.YtallpjhkmcgpoaaGreat.B
end
section
namespace Go.Proofs.YtallpjhkmcgpoaaGreat.X
open Go Go.RowKit Go.Proofs.YtallpjhkmcgpoaaGreat.V Go.Proofs.YtallpjhkmcgpoaaGreat.P
theorem Qr7 (n:Int):0≤bits .and .i64 n 255∧bits .and .i64 n 255≤255:=by
 have h255:(BitVec.ofInt 64 255).toNat=2 ^ 8-1:=by decide
 have key:(BitVec.ofInt 64 n &&& BitVec.ofInt 64 255).toNat=(n % ((2 ^ 64:Nat):Int)).toNat % 2 ^ 8:=by
  rw [BitVec.toNat_and,BitVec.toNat_ofInt,h255,Nat.and_two_pow_sub_one_eq_mod]
 have e:bits .and .i64 n 255=n % 256:=by
  show IntKind.i64.wrap ((BitVec.ofInt 64 n &&& BitVec.ofInt 64 255).toNat:Nat)=n % 256
  rw [key,IntKind.wrap_i64]
  omega
 omega
theorem Qiq {b:List Int} (hb:b.length≤4194304) {i:Int} (h:Int) (h0:0≤i) (h1:i≤(b.length:Int)):B.EvP (fun _=>QaH.f b i h) (B.Cu b fun v=>0≤v∧v≤255):=by
 unfold QaH.f
 refine B.EvP.ite (fun c => ?_) (fun c=>B.EvP.pure ⟨Qr7 _,h0,h1⟩)
 rw [if_pos h0]
 have e:wrap64 (i+1)=i+1:=B.wid (by omega) (by omega)
 rw [e]
 exact B.EvP.pure ⟨Qr7 _,by simp only;omega,by simp only;omega⟩
def Qse (n v:Int):Prop:=0≤v∧(0<n→v<n)∧(n≤0→v=0)
theorem Qbl {b:List Int} (hb:b.length≤4194304) {i:Int} (h:Int) (n:Int) (h0:0≤i) (h1:i≤(b.length:Int)):B.EvP (fun _=>QC.f b i h n) (B.Cu b (Qse n)):=by
 unfold QC.f
 refine B.EvP.ite (fun c=>B.EvP.pure ⟨⟨by omega,by omega,fun _=>rfl⟩,h0,h1⟩) (fun c => ?_)
 have fin:∀ x:Int,0≤x→Qse n (Int.tmod x n):=fun x hx=>⟨Int.tmod_nonneg _ hx,fun hn=>Int.tmod_lt_of_pos _ hn,fun hn=>absurd hn c⟩
 refine B.EvP.ite (fun c2 => ?_) (fun c2 => ?_)
 ·refine B.EvP.bind (Qiq hb h h0 h1) ?_
  rintro ⟨v,i,h⟩ ⟨q,h0,h1⟩
  rw [if_neg (by omega)]
  exact B.EvP.pure ⟨fin _ q.1,h0,h1⟩
 ·refine B.EvP.bind (Qiq hb h h0 h1) ?_
  rintro ⟨v,i,h⟩ ⟨q,h0,h1⟩
  refine B.EvP.bind (Qiq hb h h0 h1) ?_
  rintro ⟨v2,i,h⟩ ⟨q2,h0,h1⟩
  refine B.EvP.bind (Qiq hb h h0 h1) ?_
  rintro ⟨v3,i,h⟩ ⟨q3,h0,h1⟩
  refine B.EvP.bind (Qiq hb h h0 h1) ?_
  rintro ⟨v4,i,h⟩ ⟨q4,h0,h1⟩
  rw [if_neg (by omega)]
  refine B.EvP.pure ⟨fin _ ?_,h0,h1⟩
  simp only at q q2 q3 q4 ⊢
  rw [B.wid (n:=v * 16777216) (by omega) (by omega),B.wid (n:=v2 * 65536) (by omega) (by omega),B.wid (n:=v3 * 256) (by omega) (by omega),B.wid (n:=v * 16777216+v2 * 65536) (by omega) (by omega),B.wid (n:=v * 16777216+v2 * 65536+v3 * 256) (by omega) (by omega),B.wid (by omega) (by omega)]
  omega
theorem Qhs {b:List Int} (hb:b.length≤4194304) {i:Int} (h:Int) (h0:0≤i) (h1:i≤(b.length:Int)):B.EvP (fun _=>Qak.f b i h) (B.Cu b fun v=>0≤v∧v≤3):=by
 unfold Qak.f
 refine B.EvP.bind (Qbl hb h 4 h0 h1) ?_
 rintro ⟨v,i,h⟩ ⟨q,h0,h1⟩
 exact B.EvP.pure ⟨⟨q.1,by have:=q.2.1 (by decide);simp only at this ⊢; omega⟩,h0,h1⟩
theorem Qkn {b:List Int} (hb:b.length≤4194304) {i:Int} (h:Int) (l:List Int) (hl:0<l.length) (h0:0≤i) (h1:i≤(b.length:Int)):B.EvP (fun _=>Qan.f b i h l) (B.Cu b fun v=>v∈l):=by
 unfold Qan.f
 refine B.EvP.bind (Qbl hb h (l.length:Int) h0 h1) ?_
 rintro ⟨v,i,h⟩ ⟨q,h0,h1⟩
 have q1:=q.1
 have q2:=q.2.1 (by omega)
 simp only at q1 q2 ⊢
 rw [if_pos q1,if_pos q2]
 refine B.EvP.pure ⟨?_,h0,h1⟩
 show rd l v∈l
 unfold rd
 rw [B.getD_lt (by omega)]
 exact List.getElem_mem _
theorem Qlh {b:List Int} (hb:b.length≤4194304) {i:Int} (h:Int) (h0:0≤i) (h1:i≤(b.length:Int)):B.EvP (fun _=>Qbr.f b i h) (B.Cu b fun v => -1≤v∧v≤6):=by
 unfold Qbr.f
 refine B.EvP.bind (Qkn hb h [0,1,2,3,5,6, -1] (by decide) h0 h1) ?_
 rintro ⟨v,i,h⟩ ⟨q,h0,h1⟩
 refine B.EvP.pure ⟨?_,h0,h1⟩
 simp at q ⊢
 omega
theorem Qy0 (l:List Int) (hl:l.length≤4194304):B.EvP (fun k=>Q5.f k l) (fun t=>t.1=l∧t.2.1=0):=by
 unfold Q5.f
 suffices H:∀ n:Nat,∀ (i:Nat) (x:Int),i+n=l.length→B.EvP (fun k=>Q5.l0 k l x (i:Int)) (fun t=>t.1=l∧t.2.1=0) from H l.length 0 _ (by omega)
 intro n
 induction n with
 | zero =>
  intro i x hi
  refine B.EvP.succ ?_
  simp only [Q5.l0,show ¬((i:Int)<(l.length:Int)) by omega, ↓reduceIte]
  exact B.EvP.pure ⟨rfl,rfl⟩
 | succ n ih =>
  intro i x hi
  refine B.EvP.succ ?_
  simp only [Q5.l0,show (i:Int)<(l.length:Int) by omega,show 0≤(i:Int) by omega, ↓reduceIte,B.wsucc (show i<9223372036854775807 by omega)]
  exact B.EvP.ite (fun c=>ih (i+1) _ (by omega)) (fun c=>B.EvP.pure ⟨rfl,rfl⟩)
theorem Qv5 (l:List Int):Qb5.f l=some (decide ((l.length:Int) > 1048576)):=rfl
end Go.Proofs.YtallpjhkmcgpoaaGreat.X
end
section
namespace Go.Proofs.YtallpjhkmcgpoaaGreat.X
open Go Go.RowKit Go.Proofs.YtallpjhkmcgpoaaGreat.V Go.Proofs.YtallpjhkmcgpoaaGreat.P
theorem QrG {b:List Int} (hb:b.length≤4194304) {i:Int} (h:Int) (n:Int) (h0:0≤i) (h1:i≤(b.length:Int)):B.EvP (fun _=>Qa0.f b i h n) (B.Cu b fun _=>True):=by
 unfold Qa0.f
 refine B.EvP.bind (Qbl hb h n h0 h1) ?_
 rintro ⟨v,i,h⟩ ⟨q,h0,h1⟩
 exact B.EvP.pure ⟨trivial,h0,h1⟩
end Go.Proofs.YtallpjhkmcgpoaaGreat.X
end
section
namespace Go.Proofs.YtallpjhkmcgpoaaGreat.X
open Go Go.RowKit Go.Proofs.YtallpjhkmcgpoaaGreat.V Go.Proofs.YtallpjhkmcgpoaaGreat.P
theorem Qos (a b c:Int):Qaw.f a b c=some (decide (b≤a∧a≤c)):=by
 unfold Qaw.f
 by_cases h:b≤a <;> simp [h]
theorem Qd3 (a b c:Int):Qaa.f a b c=some (decide (b≤a∧a≤c)):=by
 unfold Qaa.f
 by_cases h:b≤a <;> simp [h]
theorem Qec (a:Int):QaI.f a=some (decide (0≤a∧a≤5)):=by unfold QaI.f;rw [Qos];rfl
theorem QcW (a:Int):Qar.f a=some (decide (0≤a∧a≤5)):=by unfold Qar.f;rw [Qd3];rfl
end Go.Proofs.YtallpjhkmcgpoaaGreat.X
end
section
namespace Go.Proofs.YtallpjhkmcgpoaaGreat.X
open Go Go.RowKit Go.Proofs.YtallpjhkmcgpoaaGreat.V Go.Proofs.YtallpjhkmcgpoaaGreat.P
theorem QbI {xs:List S38} {i:Nat} : Qac xs (i:Int)=xs.getD i z38:=by unfold Qac;rw [Int.toNat_natCast]
def lab (l:List S38) (i:Nat):Int:=(l.getD i z38).f0
def dep (l:List S38) (i:Nat):Int:=(l.getD i z38).f1
def Qpb (l:List S38) (i:Nat):Bool :=
 decide (0≤lab l i∧lab l i≤5) && decide (0≤dep l i∧dep l i≤12) && decide (dep l i=0↔i=0) && (decide (i=0) || decide (dep l i≤dep l (i-1)+1))
def Qdj (l:List S38) (n:Nat):Bool:=(List.range n).all (Qpb l)
def okT (l:List S38):Bool:=decide (1≤l.length∧l.length≤24) && Qdj l l.length
theorem QfN (l:List S38) (n:Nat):Qdj l (n+1)=(Qdj l n && Qpb l n):=by unfold Qdj;rw [List.range_succ,List.all_append];simp
theorem Qey {l:List S38} {n i:Nat} (h:Qdj l n=true) (hi:i<n):Qpb l i=true:=by
 unfold Qdj at h;exact List.all_eq_true.1 h i (List.mem_range.2 hi)
theorem QbX {l:List S38} {i:Nat} : Qpb l i=true↔(0≤lab l i∧lab l i≤5)∧(0≤dep l i∧dep l i≤12)∧(dep l i=0↔i=0)∧(i=0∨dep l i≤dep l (i-1)+1):=by
 unfold Qpb;simp [and_assoc]
theorem Qfj {l:List S38} {n i:Nat} (h:Qpb l i=false) (hi:i<n):Qdj l n=false:=by
 rw [Bool.eq_false_iff];intro hc;rw [Qey hc hi] at h;cases h
theorem QaT {l:List S38} (h:okT l=true):1≤l.length∧l.length≤24:=by unfold okT at h;simp at h;exact h.1
theorem Qpa {l:List S38} (h:okT l=true):Qdj l l.length=true:=by unfold okT at h;simp at h;exact h.2
theorem Qcd {l:List S38} (h:okT l=true) {i:Nat} (hi:i<l.length):(0≤lab l i∧lab l i≤5)∧(0≤dep l i∧dep l i≤12)∧(dep l i=0↔i=0)∧(i=0∨dep l i≤dep l (i-1)+1) :=
 QbX.1 (Qey (Qpa h) hi)
theorem Qcl (l:List S38) (hl:l.length≤4194304) (k:Nat) (hk:l.length<k):QG.f k l=some (okT l):=by
 unfold QG.f
 refine B.loopI (fun k i=>QG.l0 k l (i:Int)) l.length 0 (fun i=>Qdj l i=true) (fun _=>some (okT l)) ?_ ?_ k 0 (by omega) (by simp [Qdj]) (by omega)
 ·intro k _ hI
  simp only [QG.l0]
  rw [if_neg (by omega),Qos]
  unfold okT
  rw [hI]
  simp only [Option.bind_some,Bool.and_true,Option.some.injEq]
  congr 1
  apply propext
  omega
 ·intro k i _ hi hI ih
  have a1:(i:Int)<(l.length:Int):=by omega
  have a3:0≤(i:Int):=by omega
  simp only [QG.l0,a1,a3, ↓reduceIte,B.wsucc (show i<9223372036854775807 by omega),Qec,Qos,Option.bind_some,QbI]
  rw [QfN,hI,Bool.true_and] at ih
  have hno:Qpb l i=false→some false=some (okT l):=fun h=>by
   unfold okT;rw [Qfj h hi,Bool.and_false]
  have e0:lab l i=(l.getD i z38).f0:=rfl
  have e1:dep l i=(l.getD i z38).f1:=rfl
  rw [←e0, ←e1]
  by_cases h1:0≤lab l i∧lab l i≤5
  ·rw [if_pos (by simpa using h1)]
   by_cases h2:0≤dep l i∧dep l i≤12
   ·rw [if_pos (by simpa using h2)]
    by_cases h3:(dep l i=0↔i=0)
    ·rw [if_pos (by rw [Bool.eq_iff_iff];simp only [decide_eq_true_eq];omega)]
     rcases Nat.eq_zero_or_pos i with h0|h0
     ·subst h0
      rw [if_neg (by simp)]
      exact ih (QbX.2 ⟨h1,h2,h3,Or.inl rfl⟩)
     ·have ew:wrap64 ((i:Int)-1)=((i-1:Nat):Int):=by unfold wrap64;omega
      have hp:=(QbX.1 (Qey hI (i:=i-1) (by omega))).2.1
      rw [if_pos (by omega),ew,if_pos (by omega),if_pos (by omega),QbI]
      have e2:dep l (i-1)=(l.getD (i-1) z38).f1:=rfl
      rw [←e2,B.wid (by omega) (by omega)]
      by_cases h4:dep l i≤dep l (i-1)+1
      ·rw [if_neg (by omega)]
       exact ih (QbX.2 ⟨h1,h2,h3,Or.inr h4⟩)
      ·rw [if_pos (by omega)]
       refine hno ?_
       rw [Bool.eq_false_iff];intro hc
       rcases (QbX.1 hc).2.2.2 with h|h <;> omega
    ·rw [if_neg (by rw [Bool.eq_iff_iff];simp only [decide_eq_true_eq];omega)]
     refine hno ?_
     rw [Bool.eq_false_iff];intro hc;exact h3 (QbX.1 hc).2.2.1
   ·rw [if_neg (by simpa using h2)]
    refine hno ?_
    rw [Bool.eq_false_iff];intro hc;exact h2 (QbX.1 hc).2.1
  ·rw [if_neg (by simpa using h1)]
   refine hno ?_
   rw [Bool.eq_false_iff];intro hc;exact h1 (QbX.1 hc).1
theorem Qb7 (l:List S38) (hl:l.length≤4194304) (k:Nat) (hk:l.length<k):QE.f k l=some (okT l):=by
 unfold QE.f
 rw [Qd3]
 simp only [Option.bind_some]
 by_cases hn:1≤l.length∧l.length≤24
 ·rw [if_pos (by simp;omega)]
  refine B.loopI (fun k i=>QE.l0 k l l (l.length:Int) (i:Int)) l.length 0 (fun i=>Qdj l i=true) (fun _=>some (okT l)) ?_ ?_ k 0 (by omega) (by simp [Qdj]) (by omega)
  ·intro k _ hI
   simp only [QE.l0]
   rw [if_neg (by omega)]
   unfold okT
   rw [hI,decide_eq_true hn];rfl
  ·intro k i _ hi hI ih
   have a1:(i:Int)<(l.length:Int):=by omega
   have a3:0≤(i:Int):=by omega
   simp only [QE.l0,a1,a3, ↓reduceIte,B.wsucc (show i<9223372036854775807 by omega),QcW,Qd3,Option.bind_some,QbI]
   rw [QfN,hI,Bool.true_and] at ih
   have hno:Qpb l i=false→some false=some (okT l):=fun h=>by
    unfold okT;rw [Qfj h hi,Bool.and_false]
   have e0:lab l i=(l.getD i z38).f0:=rfl
   have e1:dep l i=(l.getD i z38).f1:=rfl
   rw [←e0, ←e1]
   by_cases h1:0≤lab l i∧lab l i≤5
   ·rw [if_pos (by simpa using h1)]
    by_cases h2:0≤dep l i∧dep l i≤12
    ·rw [if_pos (by simpa using h2)]
     have hd:Qa2.f l (i:Int)=some (decide ((dep l i=0↔i=0)∧(i=0∨dep l i≤dep l (i-1)+1))):=by
      unfold Qa2.f
      rcases Nat.eq_zero_or_pos i with h0|h0
      ·subst h0
       rw [if_pos (by simp),if_pos (by omega)]
       have:=QbI (xs:=l) (i:=0)
       rw [show ((0:Nat):Int)=0 from rfl] at this
       rw [this]
       show some (dep l 0 == 0)=_
       rw [Option.some.injEq,Bool.eq_iff_iff];simp
      ·have ew:wrap64 ((i:Int)-1)=((i-1:Nat):Int):=by unfold wrap64;omega
       have hp:=(QbX.1 (Qey hI (i:=i-1) (by omega))).2.1
       rw [if_neg (by omega),if_pos (by omega),if_pos a1,ew,if_pos (by omega),if_pos (by omega),QbI,QbI]
       have e2:dep l (i-1)=(l.getD (i-1) z38).f1:=rfl
       rw [←e1, ←e2,Qd3,B.wid (by omega) (by omega)]
       simp only [Option.bind_some,Option.some.injEq]
       congr 1
       apply propext
       omega
     rw [hd]
     simp only [Option.bind_some]
     by_cases h3:(dep l i=0↔i=0)∧(i=0∨dep l i≤dep l (i-1)+1)
     ·rw [if_pos (by simpa using h3)]
      exact ih (QbX.2 ⟨h1,h2,h3⟩)
     ·rw [if_neg (by simpa using h3)]
      refine hno ?_
      rw [Bool.eq_false_iff];intro hc;exact h3 (QbX.1 hc).2.2
    ·rw [if_neg (by simpa using h2)]
     refine hno ?_
     rw [Bool.eq_false_iff];intro hc;exact h2 (QbX.1 hc).2.1
   ·rw [if_neg (by simpa using h1)]
    refine hno ?_
    rw [Bool.eq_false_iff];intro hc;exact h1 (QbX.1 hc).1
 ·rw [if_neg (by simp;omega)]
  unfold okT
  rw [decide_eq_false hn];rfl
end Go.Proofs.YtallpjhkmcgpoaaGreat.X
end
section
namespace Go.Proofs.YtallpjhkmcgpoaaGreat.X
open Go Go.RowKit Go.Proofs.YtallpjhkmcgpoaaGreat.V Go.Proofs.YtallpjhkmcgpoaaGreat.P
theorem Qld {b:List Int} (hb:b.length≤4194304):∀ (n:Nat) (l:List S38) (i h:Int),0≤i→i≤(b.length:Int)→1≤l.length→l.length+n≤4194304 →
 B.EvP (fun k=>QN.l0 k l (n:Int) b i h) (B.Cu b fun l'=>l'.length=l.length+n):=by
 intro n
 induction n with
 | zero =>
  intro l i h h0 h1 _ _
  refine B.EvP.succ ?_
  simp only [QN.l0,show ¬((0:Nat):Int) > 0 by decide, ↓reduceIte]
  exact B.EvP.pure ⟨rfl,h0,h1⟩
 | succ n ih =>
  intro l i h h0 h1 hl hn
  refine B.EvP.succ ?_
  have e1:wrap64 ((l.length:Int)-1)=(l.length:Int)-1:=B.wid (by omega) (by omega)
  have e2:wrap64 (((n+1:Nat):Int)-1)=(n:Int):=by rw [B.wid (by omega) (by omega)];omega
  simp only [QN.l0,show ((n+1:Nat):Int) > 0 by omega,e1,e2,show 0≤(l.length:Int)-1 by omega,show (l.length:Int)-1<(l.length:Int) by omega,show l.length<8796093022208 by omega, ↓reduceIte]
  have fin:∀ (x:S38) (i h:Int),0≤i→i≤(b.length:Int)→B.EvP (fun k=>QN.l0 k (l++[x]) (n:Int) b i h) (B.Cu b fun l'=>l'.length=l.length+(n+1)):=fun x i h h0 h1 =>
   (ih (l++[x]) i h h0 h1 (by simp) (by simp;omega)).mono fun v hv=>⟨by have:=hv.1;simp at this;simp only;omega,hv.2⟩
  refine B.EvP.bind (Qbl hb h _ h0 h1) ?_
  rintro ⟨v,i,h⟩ ⟨q,h0,h1⟩
  refine B.EvP.bind (QrG hb h _ h0 h1) ?_
  rintro ⟨v2,i,h⟩ ⟨_,h0,h1⟩
  refine B.EvP.ite (fun _ => ?_) (fun _ => ?_)
  all_goals
   refine B.EvP.ite (fun _ => ?_) (fun _ => ?_)
   all_goals
    refine B.EvP.bind (Qhs hb h h0 h1) ?_
    rintro ⟨v3,i,h⟩ ⟨_,h0,h1⟩
    exact fin _ i h h0 h1
theorem Qip {b:List Int} (hb:b.length≤4194304) {i:Int} (h:Int) (most:Int) (hm:most≤1000) (h0:0≤i) (h1:i≤(b.length:Int)):B.EvP (fun k=>QN.f k b i h most) (B.Cu b fun l=>1≤l.length∧l.length≤1001):=by
 unfold QN.f
 refine B.EvP.bind (Qhs hb h h0 h1) ?_
 rintro ⟨v,i,h⟩ ⟨_,h0,h1⟩
 refine B.EvP.bind (Qbl hb h most h0 h1) ?_
 rintro ⟨n,i,h⟩ ⟨q,h0,h1⟩
 obtain ⟨m,hm'⟩:∃ m:Nat,n=(m:Int):=⟨n.toNat,by have:=q.1;simp only at this;omega⟩
 subst hm'
 have hle:m≤1000:=by
  have q2:=q.2.1
  have q3:=q.2.2
  simp only at q2 q3
  omega
 refine (Qld hb m [⟨v,0⟩] i h h0 h1 (by simp) (by simp;omega)).mono fun t ht=>⟨?_,ht.2⟩
 have:=ht.1
 simp at this
 omega
theorem Qlg {b:List Int} (hb:b.length≤4194304):∀ (n:Nat) (l:List S38) (i h:Int),0≤i→i≤(b.length:Int)→l.length≤1001→25≤l.length+n →
 B.EvP (fun k=>QB.l0 k l b i h) (B.Cu b fun l'=>l'.length≤1001):=by
 intro n
 induction n with
 | zero =>
  intro l i h h0 h1 hl hn
  refine B.EvP.succ ?_
  simp only [QB.l0]
  refine B.EvP.bind (Qbl hb h 2 h0 h1) ?_
  rintro ⟨v,i,h⟩ ⟨q,h0,h1⟩
  have q1:=q.1
  have q2:=q.2.1 (by omega)
  simp only at q1 q2 ⊢
  rw [B.wid (by omega) (by omega)]
  simp only [show ¬((l.length:Int)<24+v) by omega, ↓reduceIte]
  exact B.EvP.pure ⟨hl,h0,h1⟩
 | succ n ih =>
  intro l i h h0 h1 hl hn
  refine B.EvP.succ ?_
  simp only [QB.l0]
  refine B.EvP.bind (Qbl hb h 2 h0 h1) ?_
  rintro ⟨v,i,h⟩ ⟨q,h0,h1⟩
  have q1:=q.1
  have q2:=q.2.1 (by omega)
  simp only at q1 q2 ⊢
  rw [B.wid (by omega) (by omega)]
  refine B.EvP.ite (fun c => ?_) (fun c=>B.EvP.pure ⟨hl,h0,h1⟩)
  simp only [show l.length<8796093022208 by omega, ↓reduceIte]
  exact ih _ _ _ h0 h1 (by simp;omega) (by simp;omega)
theorem Qlf {b:List Int} (hb:b.length≤4194304):∀ (n:Nat) (l:List S38) (i h:Int),0≤i→i≤(b.length:Int)→l.length≤1001→14≤l.length+n →
 B.EvP (fun k=>QB.l1 k l b i h) (B.Cu b fun l'=>l'.length≤1001):=by
 intro n
 induction n with
 | zero =>
  intro l i h h0 h1 hl hn
  refine B.EvP.succ ?_
  simp only [QB.l1]
  refine B.EvP.bind (Qbl hb h 2 h0 h1) ?_
  rintro ⟨v,i,h⟩ ⟨q,h0,h1⟩
  have q1:=q.1
  have q2:=q.2.1 (by omega)
  simp only at q1 q2 ⊢
  rw [B.wid (by omega) (by omega)]
  simp only [show ¬((l.length:Int)<13+v) by omega, ↓reduceIte]
  exact B.EvP.pure ⟨hl,h0,h1⟩
 | succ n ih =>
  intro l i h h0 h1 hl hn
  refine B.EvP.succ ?_
  simp only [QB.l1]
  refine B.EvP.bind (Qbl hb h 2 h0 h1) ?_
  rintro ⟨v,i,h⟩ ⟨q,h0,h1⟩
  have q1:=q.1
  have q2:=q.2.1 (by omega)
  simp only at q1 q2 ⊢
  rw [B.wid (by omega) (by omega)]
  refine B.EvP.ite (fun c => ?_) (fun c=>B.EvP.pure ⟨hl,h0,h1⟩)
  simp only [show l.length<8796093022208 by omega, ↓reduceIte]
  exact ih _ _ _ h0 h1 (by simp;omega) (by simp;omega)
theorem Qy2 {b:List Int} (hb:b.length≤4194304) {i:Int} (h:Int) (most:Int) (hm:most≤1000) (h0:0≤i) (h1:i≤(b.length:Int)):B.EvP (fun k=>QB.f k b i h most) (B.Cu b fun l=>l.length≤1001):=by
 unfold QB.f
 refine B.EvP.bind (Qip hb h most hm h0 h1) ?_
 rintro ⟨l,i,h⟩ ⟨⟨hl,hl'⟩,h0,h1⟩
 simp only at hl hl'
 refine B.EvP.bind (Qbl hb h (l.length:Int) h0 h1) ?_
 rintro ⟨v,i,h⟩ ⟨q,h0,h1⟩
 have q1:=q.1
 have q2:=q.2.1 (by omega)
 refine B.EvP.bind (Qbl hb h 18 h0 h1) ?_
 rintro ⟨s,i,h⟩ ⟨_,h0,h1⟩
 simp only at q1 q2 ⊢
 refine B.EvP.ite (fun _ => ?_) (fun _ => ?_)
 ·refine B.EvP.bind (Qlh hb h h0 h1) ?_
  rintro ⟨v3,i,h⟩ ⟨_,h0,h1⟩
  rw [if_pos q1,if_pos q2]
  exact B.EvP.pure ⟨by simp;omega,h0,h1⟩
 refine B.EvP.ite (fun _ => ?_) (fun _ => ?_)
 ·rw [if_pos q1,if_pos q2]
  refine B.EvP.bind (Qkn hb h _ (by simp) h0 h1) ?_
  rintro ⟨v3,i,h⟩ ⟨_,h0,h1⟩
  exact B.EvP.pure ⟨by simp;omega,h0,h1⟩
 refine B.EvP.ite (fun _ => ?_) (fun _ => ?_)
 ·rw [if_pos (by omega)]
  exact B.EvP.pure ⟨by simp;omega,h0,h1⟩
 refine B.EvP.ite (fun _=>Qlg hb 25 l i h h0 h1 (by omega) (by omega)) (fun _ => ?_)
 exact B.EvP.ite (fun _=>Qlf hb 14 _ i h h0 h1 (by simp) (by simp)) (fun _=>B.EvP.pure ⟨hl',h0,h1⟩)
end Go.Proofs.YtallpjhkmcgpoaaGreat.X
end
section
namespace Go.Proofs.YtallpjhkmcgpoaaGreat.X
open Go Go.RowKit Go.Proofs.YtallpjhkmcgpoaaGreat.V Go.Proofs.YtallpjhkmcgpoaaGreat.P
theorem QtJ (l:List S38) (hl:l.length≤4194304):QaL.f l=some l:=by
 unfold QaL.f
 rw [if_pos (by omega)]
theorem Qle {b:List Int} (hb:b.length≤4194304) (m:List S38):∀ (n:Nat) (l:List S38) (i h:Int),0≤i→i≤(b.length:Int)→l.length+n≤2000000 →
 B.EvP (fun k=>QJ.l0 k l (n:Int) b i h m) (B.Cu b fun l'=>l'.length≤max 1001 (l.length+n)):=by
 intro n
 induction n with
 | zero =>
  intro l i h h0 h1 hn
  refine B.EvP.succ ?_
  simp only [QJ.l0,show ¬((0:Nat):Int) > 0 by decide, ↓reduceIte]
  refine B.EvP.bind (B.EvP.of (B.Ev.of _ (fun k hk=>Qcl l (by omega) k hk)) (P:=fun _=>True) trivial) ?_
  rintro v _
  refine B.EvP.ite (fun _=>B.EvP.pure ⟨by simp only;omega,h0,h1⟩) (fun _ => ?_)
  refine B.EvP.bind (Qip hb h 8 (by omega) h0 h1) ?_
  rintro ⟨l',i,h⟩ ⟨q,h0,h1⟩
  exact B.EvP.pure ⟨by simp only at q ⊢; omega,h0,h1⟩
 | succ n ih =>
  intro l i h h0 h1 hn
  refine B.EvP.succ ?_
  have e2:wrap64 (((n+1:Nat):Int)-1)=(n:Int):=by rw [B.wid (by omega) (by omega)];omega
  have fin:∀ (l':List S38) (i h:Int),l'.length≤l.length+1→0≤i→i≤(b.length:Int)→B.EvP (fun k=>QJ.l0 k l' (n:Int) b i h m) (B.Cu b fun l'=>l'.length≤max 1001 (l.length+(n+1))):=fun l' i h hl h0 h1 =>
   (ih l' i h h0 h1 (by omega)).mono fun v hv=>⟨by have:=hv.1;simp only at this ⊢; omega,hv.2⟩
  simp only [QJ.l0,show ((n+1:Nat):Int) > 0 by omega, ↓reduceIte,e2]
  refine B.EvP.ite (fun c => ?_) (fun _ => ?_)
  ·have hl:0<l.length:=by omega
   refine B.EvP.bind (Qbl hb h (l.length:Int) h0 h1) ?_
   rintro ⟨v,i,h⟩ ⟨q,h0,h1⟩
   have q1:=q.1
   have q2:=q.2.1 (by omega)
   refine B.EvP.bind (Qbl hb h 3 h0 h1) ?_
   rintro ⟨s,i,h⟩ ⟨_,h0,h1⟩
   simp only at q1 q2 ⊢
   have e1:wrap64 ((l.length:Int)-1)=(l.length:Int)-1:=B.wid (by omega) (by omega)
   have e3:wrap64 (v+1)=v+1:=B.wid (by omega) (by omega)
   simp only [e1,e3,q1,q2,show v≤(l.length:Int) by omega,show 0≤v+1 by omega,show v+1≤(l.length:Int) by omega,show 0≤(l.length:Int)-1 by omega,show (l.length:Int)-1<(l.length:Int) by omega, ↓reduceIte]
   refine B.EvP.ite (fun _ => ?_) (fun _ => ?_)
   ·refine B.EvP.bind (Qhs hb h h0 h1) ?_
    rintro ⟨v3,i,h⟩ ⟨_,h0,h1⟩
    exact fin _ i h (by simp) h0 h1
   refine B.EvP.ite (fun _ => ?_) (fun _ => ?_)
   ·refine B.EvP.ite (fun _ => ?_) (fun _=>fin _ i h (by omega) h0 h1)
    refine B.EvP.ite (fun _ => ?_) (fun _=>fin _ i h (by omega) h0 h1)
    simp only [Option.bind_some]
    rw [QtJ _ (by rw [List.length_take];omega)]
    simp only [Option.bind_some]
    have e5:((l.take v.toNat).length+(l.drop (v+1).toNat).length) * 16≤140737488355328:=by rw [List.length_take,List.length_drop];omega
    simp only [e5, ↓reduceIte]
    exact fin _ i h (by rw [List.length_append,List.length_take,List.length_drop];omega) h0 h1
   ·rw [QtJ _ (by omega)]
    simp only [Option.bind_some]
    refine B.EvP.bind (Qhs hb h h0 h1) ?_
    rintro ⟨v3,i,h⟩ ⟨_,h0,h1⟩
    refine B.EvP.bind (Qbl hb h _ h0 h1) ?_
    rintro ⟨v4,i,h⟩ ⟨_,h0,h1⟩
    simp only [show l.length<8796093022208 by omega, ↓reduceIte]
    exact fin _ i h (by simp) h0 h1
  ·refine B.EvP.bind (B.EvP.of (B.Ev.of _ (fun k hk=>Qcl l (by omega) k hk)) (P:=fun _=>True) trivial) ?_
   rintro v _
   refine B.EvP.ite (fun _=>B.EvP.pure ⟨by simp only;omega,h0,h1⟩) (fun _ => ?_)
   refine B.EvP.bind (Qip hb h 8 (by omega) h0 h1) ?_
   rintro ⟨l',i,h⟩ ⟨q,h0,h1⟩
   exact B.EvP.pure ⟨by simp only at q ⊢; omega,h0,h1⟩
theorem QwX {b:List Int} (hb:b.length≤4194304) {i:Int} (h:Int) (l:List S38) (hl:l.length≤1000000) (h0:0≤i) (h1:i≤(b.length:Int)):B.EvP (fun k=>QJ.f k b i h l) (B.Cu b fun l'=>l'.length≤max 1001 (l.length+3)):=by
 unfold QJ.f
 rw [QtJ _ (by omega)]
 simp only [Option.bind_some]
 refine B.EvP.bind (Qbl hb h 3 h0 h1) ?_
 rintro ⟨v,i,h⟩ ⟨q,h0,h1⟩
 have q1:=q.1
 have q2:=q.2.1 (by omega)
 simp only at q1 q2 ⊢
 obtain ⟨m,hm⟩:∃ m:Nat,wrap64 (1+v)=(m:Int):=⟨(1+v).toNat,by rw [B.wid (by omega) (by omega)];omega⟩
 have hm3:m≤3:=by rw [B.wid (by omega) (by omega)] at hm;omega
 rw [hm]
 exact (Qle hb l m l i h h0 h1 (by omega)).mono fun t ht=>⟨by have:=ht.1;simp only at this ⊢; omega,ht.2⟩
end Go.Proofs.YtallpjhkmcgpoaaGreat.X
end
section
namespace Go.Proofs.YtallpjhkmcgpoaaGreat.X
open Go Go.RowKit Go.Proofs.YtallpjhkmcgpoaaGreat.V Go.Proofs.YtallpjhkmcgpoaaGreat.P
def L3 (t:List Int×List Int×List Int):Prop:=t.1.length=6∧t.2.1.length=6∧t.2.2.length=36
theorem QtA:∀ (n x:Nat) (d e r:List Int),x+n=6→d.length=x→e.length=x→r.length=6 * x→B.EvP (fun k=>Qr.l0 k (x:Int) [] [] [] d e r) L3:=by
 intro n
 induction n with
 | zero =>
  intro x d e r hx h1 h2 h3
  refine B.EvP.succ ?_
  simp only [Qr.l0,show ¬((x:Int)<6) by omega, ↓reduceIte]
  exact B.EvP.pure ⟨by simp only;omega,by simp only;omega,by simp only;omega⟩
 | succ n ih =>
  intro x d e r hx h1 h2 h3
  have inner:∀ (m y:Nat) (d e r:List Int),y+m=6→d.length=x+1→e.length=x+1→r.length=6 * x+y→B.EvP (fun k=>Qr.l1 k (x:Int) (y:Int) [] [] [] d e r) L3:=by
   intro m
   induction m with
   | zero =>
    intro y d e r hy h1 h2 h3
    refine B.EvP.succ ?_
    simp only [Qr.l1,show ¬((y:Int)<6) by omega, ↓reduceIte,B.wsucc (show x<9223372036854775807 by omega)]
    exact ih (x+1) d e r (by omega) h1 h2 (by omega)
   | succ m ihm =>
    intro y d e r hy h1 h2 h3
    refine B.EvP.succ ?_
    simp only [Qr.l1,show (y:Int)<6 by omega,show r.length<17592186044416 by omega, ↓reduceIte,B.wsucc (show y<9223372036854775807 by omega)]
    refine B.EvP.ite (fun _ => ?_) (fun _ => ?_)
    ·exact ihm (y+1) d e _ (by omega) h1 h2 (by rw [List.length_append,List.length_singleton];omega)
    ·exact ihm (y+1) d e _ (by omega) h1 h2 (by rw [List.length_append,List.length_singleton];omega)
  refine B.EvP.succ ?_
  simp only [Qr.l0,show (x:Int)<6 by omega,show d.length<17592186044416 by omega,show e.length<17592186044416 by omega, ↓reduceIte]
  exact inner 6 0 _ _ r (by omega) (by rw [List.length_append,List.length_singleton];omega) (by rw [List.length_append,List.length_singleton];omega) (by omega)
theorem QwW:B.EvP (fun k=>Qr.f k) L3:=by
 simp only [Qr.f]
 exact QtA 6 0 [] [] [] (by omega) rfl rfl rfl
def CuC (b:List Int) (t:List Int×List Int×List Int×Int×Int):Prop:=(t.1.length=6∧t.2.1.length=6∧t.2.2.1.length=36)∧0≤t.2.2.2.1∧t.2.2.2.1≤(b.length:Int)
theorem QtC {b:List Int} {i h:Int} (h0:0≤i) (h1:i≤(b.length:Int)):∀ (n x:Nat) (d e r:List Int),d.length=6→e.length=6→r.length=36→x+n=36 →
 B.EvP (fun k=>Qm.l0 k (x:Int) b i h [] [] [] d e r) (CuC b):=by
 intro n
 induction n with
 | zero =>
  intro x d e r hd he hr hx
  refine B.EvP.succ ?_
  simp only [Qm.l0,hr,show ¬((x:Int)<((36:Nat):Int)) by omega, ↓reduceIte]
  exact B.EvP.pure ⟨⟨hd,he,hr⟩,h0,h1⟩
 | succ n ih =>
  intro x d e r hd he hr hx
  refine B.EvP.succ ?_
  simp only [Qm.l0,hr,show ((x:Int)<((36:Nat):Int)) by omega,show 0≤(x:Int) by omega, ↓reduceIte,B.wsucc (show x<9223372036854775807 by omega)]
  exact ih (x+1) _ _ _ hd he (by simp [hr]) (by omega)
theorem QtB {b:List Int} (hb:b.length≤4194304):∀ (n x m y:Nat) (i h:Int) (d e r:List Int),0≤i→i≤(b.length:Int)→d.length=6→e.length=6→r.length=36→x+n=6→y+m=6 →
 B.EvP (fun k=>Qm.l1 k (x:Int) b i h [] [] [] d e r) (CuC b)∧(x<6→B.EvP (fun k=>Qm.l2 k (x:Int) (y:Int) b i h [] [] [] d e r) (CuC b)):=by
 intro n
 induction n with
 | zero =>
  intro x m y i h d e r h0 h1 hd he hr hx hy
  refine ⟨?_,fun c=>absurd c (by omega)⟩
  refine B.EvP.succ ?_
  simp only [Qm.l1,show ¬((x:Int)<6) by omega, ↓reduceIte]
  exact B.EvP.pure ⟨⟨hd,he,hr⟩,h0,h1⟩
 | succ n ih =>
  intro x m
  have two:∀ (m y:Nat) (i h:Int) (d e r:List Int),0≤i→i≤(b.length:Int)→d.length=6→e.length=6→r.length=36→x+(n+1)=6→y+m=6→B.EvP (fun k=>Qm.l2 k (x:Int) (y:Int) b i h [] [] [] d e r) (CuC b):=by
   intro m
   induction m with
   | zero =>
    intro y i h d e r h0 h1 hd he hr hx hy
    refine B.EvP.succ ?_
    simp only [Qm.l2,show ¬((y:Int)<6) by omega, ↓reduceIte,B.wsucc (show x<9223372036854775807 by omega)]
    exact (ih (x+1) 6 0 i h d e r h0 h1 hd he hr (by omega) (by omega)).1
   | succ m ihm =>
    intro y i h d e r h0 h1 hd he hr hx hy
    refine B.EvP.succ ?_
    have a1:(y:Int)<6:=by omega
    have a2:0≤(x:Int) * 6+(y:Int):=by omega
    have a3:(x:Int) * 6+(y:Int)<((36:Nat):Int):=by omega
    have a4:=B.wsucc (show y<9223372036854775807 by omega)
    have e2:wrap64 ((x:Int) * 6+(y:Int))=(x:Int) * 6+(y:Int):=B.wid (by omega) (by omega)
    have e1:wrap64 ((x:Int) * 6)=(x:Int) * 6:=B.wid (by omega) (by omega)
    simp only [Qm.l2,a1, ↓reduceIte,e1,e2,hr,a2,a3,a4]
    clear e1 e2 a4
    refine B.EvP.ite (fun _=>ihm (y+1) i h d e r h0 h1 hd he hr hx (by omega)) (fun _ => ?_)
    refine B.EvP.bind (Qkn hb h [0,1,4,9,1000] (by decide) h0 h1) ?_
    rintro ⟨v,i,h⟩ ⟨_,h0,h1⟩
    exact ihm (y+1) i h d e _ h0 h1 hd he (by simp [hr]) hx (by omega)
  intro y i h d e r h0 h1 hd he hr hx hy
  refine ⟨?_,fun _=>two m y i h d e r h0 h1 hd he hr hx hy⟩
  refine B.EvP.succ ?_
  simp only [Qm.l1,show ((x:Int)<6) by omega,show 0≤(x:Int) by omega,hd,he,show (x:Int)<((6:Nat):Int) by omega, ↓reduceIte]
  refine B.EvP.bind (Qbl hb h 7 h0 h1) ?_
  rintro ⟨v,i,h⟩ ⟨_,h0,h1⟩
  refine B.EvP.bind (Qbl hb h 7 h0 h1) ?_
  rintro ⟨v2,i,h⟩ ⟨_,h0,h1⟩
  exact two 6 0 i h _ _ r h0 h1 (by simp [hd]) (by simp [he]) hr hx (by omega)
theorem QrH {b:List Int} (hb:b.length≤4194304) {i:Int} (h:Int) (h0:0≤i) (h1:i≤(b.length:Int)):B.EvP (fun k=>Qm.f k b i h) (CuC b):=by
 simp only [Qm.f]
 refine B.EvP.bind QwW ?_
 rintro ⟨d,e,r⟩ ⟨hd,he,hr⟩
 refine B.EvP.bind (Qbl hb h 4 h0 h1) ?_
 rintro ⟨v,i,h⟩ ⟨_,h0,h1⟩
 refine B.EvP.ite (fun _=>B.EvP.pure ⟨⟨hd,he,hr⟩,h0,h1⟩) (fun _ => ?_)
 refine B.EvP.ite (fun _=>QtC h0 h1 36 0 d e r hd he hr (by omega)) (fun _ => ?_)
 exact (QtB hb 6 0 6 0 i h d e r h0 h1 hd he hr (by omega) (by omega)).1
def CuA (b:List Int) (t:List Int×List Int×List Int×Int×Int):Prop:=(t.1.length≤36∧t.2.1.length≤36∧t.2.2.1.length≤36)∧0≤t.2.2.2.1∧t.2.2.2.1≤(b.length:Int)
theorem QnQ {b:List Int} (hb:b.length≤4194304) {i:Int} (h:Int) (h0:0≤i) (h1:i≤(b.length:Int)):B.EvP (fun k=>Qbq.f k b i h) (CuA b):=by
 simp only [Qbq.f]
 refine B.EvP.bind (QrH hb h h0 h1) ?_
 rintro ⟨d,e,r,i,h⟩ ⟨⟨hd,he,hr⟩,h0,h1⟩
 simp only at hd he hr
 refine B.EvP.bind (Qbl hb h 14 h0 h1) ?_
 rintro ⟨v,i,h⟩ ⟨_,h0,h1⟩
 refine B.EvP.ite (fun _ => ?_) (fun _ => ?_)
 ·refine B.EvP.bind (Qbl hb h 6 h0 h1) ?_
  rintro ⟨v,i,h⟩ ⟨q,h0,h1⟩
  have q1:=q.1
  have q2:=q.2.1 (by omega)
  refine B.EvP.bind (Qkn hb h [-1,1001,1000] (by decide) h0 h1) ?_
  rintro ⟨v3,i,h⟩ ⟨_,h0,h1⟩
  simp only at q1 q2 ⊢
  simp only [q1,hd,show v<((6:Nat):Int) by omega, ↓reduceIte]
  exact B.EvP.pure ⟨⟨by simp [hd],by simp [he],by simp [hr]⟩,h0,h1⟩
 refine B.EvP.ite (fun _ => ?_) (fun _ => ?_)
 ·refine B.EvP.bind (Qbl hb h 36 h0 h1) ?_
  rintro ⟨v,i,h⟩ ⟨q,h0,h1⟩
  have q1:=q.1
  have q2:=q.2.1 (by omega)
  simp only at q1 q2 ⊢
  simp only [q1,hr,show v<((36:Nat):Int) by omega, ↓reduceIte]
  exact B.EvP.pure ⟨⟨by simp [hd],by simp [he],by simp [hr]⟩,h0,h1⟩
 refine B.EvP.ite (fun _ => ?_) (fun _=>B.EvP.pure ⟨⟨by simp [hd],by simp [he],by simp [hr]⟩,h0,h1⟩)
 simp only [he,show 1≤((6:Nat):Int) by omega, ↓reduceIte,Option.bind_some]
 exact B.EvP.pure ⟨⟨by simp [hd],by simp [he],by simp [hr]⟩,h0,h1⟩
def CuT (b:List Int) (t:List S38×List S38×List Int×List Int×List Int×Int×Int):Prop:=(t.1.length≤1010∧t.2.1.length≤1010∧t.2.2.1.length≤36∧t.2.2.2.1.length≤36∧t.2.2.2.2.1.length≤36)∧0≤t.2.2.2.2.2.1∧t.2.2.2.2.2.1≤(b.length:Int)
theorem QyZ {b:List Int} (hb:b.length≤4194304) {i:Int} (h:Int) (h0:0≤i) (h1:i≤(b.length:Int)) (most:Int) (hm:most≤1000):B.EvP (fun k=>Qab.f k b i h most) (CuT b):=by
 have rest:∀ (x y:List S38) (i h:Int),x.length≤1010→y.length≤1010→0≤i→i≤(b.length:Int)→B.EvP (fun k=>Qab.j0 k most x y b i h [] [] []) (CuT b):=by
  intro x y i h hx hy h0 h1
  refine B.EvP.succ ?_
  simp only [Qab.j0]
  refine B.EvP.bind (QrH hb h h0 h1) ?_
  rintro ⟨d,e,r,i,h⟩ ⟨⟨hd,he,hr⟩,h0,h1⟩
  simp only at hd he hr
  refine B.EvP.bind (Qbl hb h 24 h0 h1) ?_
  rintro ⟨v,i,h⟩ ⟨_,h0,h1⟩
  refine B.EvP.ite (fun _ => ?_) (fun _ => ?_)
  ·refine B.EvP.bind (Qy2 hb h most hm h0 h1) ?_
   rintro ⟨x,i,h⟩ ⟨q,h0,h1⟩
   simp only at q
   exact B.EvP.pure ⟨⟨by simp only;omega,by simp only;omega,by simp only;omega,by simp only;omega,by simp only;omega⟩,h0,h1⟩
  refine B.EvP.ite (fun _ => ?_) (fun _ => ?_)
  ·refine B.EvP.bind (QnQ hb h h0 h1) ?_
   rintro ⟨d,e,r,i,h⟩ ⟨⟨hd,he,hr⟩,h0,h1⟩
   exact B.EvP.pure ⟨⟨hx,hy,hd,he,hr⟩,h0,h1⟩
  ·exact B.EvP.pure ⟨⟨by simp only;omega,by simp only;omega,by simp only;omega,by simp only;omega,by simp only;omega⟩,h0,h1⟩
 simp only [Qab.f]
 refine B.EvP.bind (Qip hb h most hm h0 h1) ?_
 rintro ⟨x,i,h⟩ ⟨⟨_,hx⟩,h0,h1⟩
 refine B.EvP.bind (Qip hb h most hm h0 h1) ?_
 rintro ⟨y,i,h⟩ ⟨⟨_,hy⟩,h0,h1⟩
 refine B.EvP.bind (QrG hb h 2 h0 h1) ?_
 rintro ⟨v,i,h⟩ ⟨_,h0,h1⟩
 simp only at hx hy
 refine B.EvP.ite (fun _ => ?_) (fun _=>rest _ _ _ _ (by simp only;omega) (by simp only;omega) h0 h1)
 refine B.EvP.bind (QwX hb h x (by omega) h0 h1) ?_
 rintro ⟨z,i,h⟩ ⟨hz,h0,h1⟩
 simp only at hz
 exact rest _ _ _ _ (by simp only;omega) (by simp only;omega) h0 h1
end Go.Proofs.YtallpjhkmcgpoaaGreat.X
end
section
namespace Go.Proofs.YtallpjhkmcgpoaaGreat.X
open Go Go.RowKit Go.Proofs.YtallpjhkmcgpoaaGreat.V Go.Proofs.YtallpjhkmcgpoaaGreat.P
def QgF (l:List S38) (i:Int):Bool:=okT l && decide (0≤i∧i≤(l.length:Int)-1)
theorem Qfw {l:List S38} {i:Int} (h:QgF l i=true):okT l=true:=by unfold QgF at h;simp at h;exact h.1
theorem Qc5 {l:List S38} {i:Int} (h:QgF l i=true):∃ n:Nat,i=(n:Int)∧n<l.length:=by
 unfold QgF at h;simp at h
 exact ⟨i.toNat,by omega,by omega⟩
theorem Qc8 {l:List S38} {n:Nat} (h:okT l=true) (hn:n<l.length):QgF l (n:Int)=true:=by
 unfold QgF;simp [h];omega
theorem Qtz (l:List S38) (hl:l.length≤4194304) (i:Int):B.Ev (fun k=>QaW.f k l i) (QgF l i):=by
 simp only [QaW.f]
 refine B.Ev.bind (B.Ev.of _ (fun k hk=>Qcl l hl k hk)) ?_
 have e:wrap64 ((l.length:Int)-1)=(l.length:Int)-1:=B.wid (by omega) (by omega)
 simp only [Qos,e,Option.bind_some]
 refine B.Ev.ite (fun h => ?_) (fun h => ?_)
 ·exact (B.Ev.pure _).eq (by simp [QgF,h])
 ·exact (B.Ev.pure _).eq (by simp [QgF,h])
def Qei (l:List S38) (i:Nat):Nat→Nat→Nat
 | 0,j=>j
 | n+1,j=>if dep l j > dep l i then Qei l i n (j+1) else j
def Qbi (l:List S38) (i:Nat):Nat:=Qei l i (l.length-(i+1)) (i+1)
theorem QnK (l:List S38) (hl:l.length≤4194304) (i:Nat) (hi:i<l.length):∀ n j:Nat,j+n=l.length→B.Ev (fun k=>Q2.l0 k l (i:Int) (j:Int)) (Qei l i n j:Int):=by
 intro n
 have a3:0≤(i:Int):=by omega
 have a4:(i:Int)<(l.length:Int):=by omega
 induction n with
 | zero =>
  intro j hj
  refine B.Ev.succ ?_
  simp only [Q2.l0,Qei,show ¬((j:Int)<(l.length:Int)) by omega, ↓reduceIte]
  exact B.Ev.pure _
 | succ n ih =>
  intro j hj
  refine B.Ev.succ ?_
  have a1:(j:Int)<(l.length:Int):=by omega
  have a2:0≤(j:Int):=by omega
  simp only [Q2.l0,Qei,a1,a2,a3,a4, ↓reduceIte,QbI,B.wsucc (show j<9223372036854775807 by omega)]
  by_cases c:dep l j > dep l i
  ·have c':(l.getD j z38).f1 > (l.getD i z38).f1:=c
   simp only [c,c', ↓reduceIte]
   exact ih (j+1) (by omega)
  ·have c':¬(l.getD j z38).f1 > (l.getD i z38).f1:=c
   simp only [c,c', ↓reduceIte]
   exact B.Ev.pure _
theorem Qk8 (l:List S38) (hl:l.length≤4194304) (i:Nat) (hi:i<l.length):∀ n j:Nat,j+n=l.length→B.Ev (fun k=>QU.l0 k l (i:Int) (j:Int)) (Qei l i n j:Int):=by
 intro n
 have a3:0≤(i:Int):=by omega
 have a4:(i:Int)<(l.length:Int):=by omega
 induction n with
 | zero =>
  intro j hj
  refine B.Ev.succ ?_
  simp only [QU.l0,Qei,show ¬((j:Int)<(l.length:Int)) by omega, ↓reduceIte]
  exact B.Ev.pure _
 | succ n ih =>
  intro j hj
  refine B.Ev.succ ?_
  have a1:(j:Int)<(l.length:Int):=by omega
  have a2:0≤(j:Int):=by omega
  simp only [QU.l0,Qei,a1,a2,a3,a4, ↓reduceIte,QbI,B.wsucc (show j<9223372036854775807 by omega)]
  by_cases c:dep l j > dep l i
  ·have c':(l.getD j z38).f1 > (l.getD i z38).f1:=c
   simp only [c,c', ↓reduceIte]
   exact ih (j+1) (by omega)
  ·have c':¬(l.getD j z38).f1 > (l.getD i z38).f1:=c
   simp only [c,c', ↓reduceIte]
   exact B.Ev.pure _
theorem QnL {l:List S38} (h:okT l=true) {i:Nat} (hi:i<l.length):B.Ev (fun k=>Q2.f k l (i:Int)) (Qbi l i:Int):=by
 have hl:=(QaT h).2
 simp only [Q2.f]
 refine B.Ev.bind (Qtz l (by omega) _) ?_
 rw [Qc8 h hi]
 simp only [↓reduceIte,B.wsucc (show i<9223372036854775807 by omega)]
 exact QnK l (by omega) i hi _ (i+1) (by omega)
theorem Qd4 {l:List S38} (h:okT l=true) {i:Nat} (hi:i<l.length):B.Ev (fun k=>QU.f k l (i:Int)) (Qbi l i:Int):=by
 have hl:=(QaT h).2
 simp only [QU.f,B.wsucc (show i<9223372036854775807 by omega)]
 exact Qk8 l (by omega) i hi _ (i+1) (by omega)
theorem Qlb (l:List S38) (i:Nat):∀ n j,j+n=l.length→j≤Qei l i n j∧Qei l i n j≤l.length∧(∀ g,j≤g→g<Qei l i n j→dep l g > dep l i)∧(Qei l i n j<l.length→dep l (Qei l i n j)≤dep l i):=by
 intro n
 induction n with
 | zero=>intro j hj;simp only [Qei];exact ⟨Nat.le_refl _,by omega,fun g h1 h2=>by omega,fun h=>by omega⟩
 | succ n ih =>
  intro j hj
  simp only [Qei]
  split
  ·next c =>
   obtain ⟨h1,h2,h3,h4⟩:=ih (j+1) (by omega)
   refine ⟨by omega,h2,fun g g1 g2 => ?_,h4⟩
   rcases Nat.lt_or_ge j g with d|d
   ·exact h3 g (by omega) g2
   ·obtain rfl:g=j:=by omega
    exact c
  ·next c=>exact ⟨Nat.le_refl _,by omega,fun g h1 h2=>by omega,fun _=>by omega⟩
theorem Qbo (l:List S38) {i:Nat} (hi:i<l.length):i<Qbi l i∧Qbi l i≤l.length∧(∀ g,i<g→g<Qbi l i→dep l g > dep l i)∧(Qbi l i<l.length→dep l (Qbi l i)≤dep l i):=by
 have:=Qlb l i (l.length-(i+1)) (i+1) (by omega)
 unfold Qbi
 exact ⟨by omega,this.2.1,fun g h1 h2=>this.2.2.1 g (by omega) h2,this.2.2.2⟩
end Go.Proofs.YtallpjhkmcgpoaaGreat.X
end
section
namespace Go.Proofs.YtallpjhkmcgpoaaGreat.X
open Go Go.RowKit Go.Proofs.YtallpjhkmcgpoaaGreat.V Go.Proofs.YtallpjhkmcgpoaaGreat.P
theorem Qi7 (l:List S38) (hl:l.length≤4194304) (i:Int):B.Ev (fun k=>Qal.f k l i) (QgF l i):=by
 simp only [Qal.f]
 refine B.Ev.bind (B.Ev.of _ (fun k hk=>Qb7 l hl k hk)) ?_
 have e:wrap64 ((l.length:Int)-1)=(l.length:Int)-1:=B.wid (by omega) (by omega)
 simp only [Qd3,e,Option.bind_some]
 refine B.Ev.ite (fun h => ?_) (fun h => ?_)
 ·exact (B.Ev.pure _).eq (by simp [QgF,h])
 ·exact (B.Ev.pure _).eq (by simp [QgF,h])
end Go.Proofs.YtallpjhkmcgpoaaGreat.X
end
section
namespace Go.Proofs.YtallpjhkmcgpoaaGreat.P
open Go Go.RowKit Go.Proofs.YtallpjhkmcgpoaaGreat.V
end Go.Proofs.YtallpjhkmcgpoaaGreat.P
end
section
namespace Go.Proofs.YtallpjhkmcgpoaaGreat.X
open Go Go.RowKit Go.Proofs.YtallpjhkmcgpoaaGreat.V Go.Proofs.YtallpjhkmcgpoaaGreat.P
def Qex (l:List S38) (i:Nat):Nat→Int
 | 0 => -1
 | j+1=>if dep l j≥dep l i then Qex l i j else (j:Int)
def Qo6 (l:List S38) (i:Nat):Int:=Qex l i i
theorem Qo7 {l:List S38} (h:okT l=true) {i:Nat} (hi:i<l.length) (h0:i≠0):∀ j,0<j→j≤i→0≤Qex l i j:=by
 intro j
 induction j with
 | zero=>intro hj;omega
 | succ j ih =>
  intro _ hj
  simp only [Qex]
  split
  ·next c =>
   rcases Nat.eq_zero_or_pos j with rfl|hp
   ·have r0:=(Qcd h (show 0<l.length by omega)).2.2.1
    have r1:=(Qcd h hi).2
    have:dep l 0=0:=r0.2 rfl
    have n1:¬dep l i=0:=fun e=>h0 (r1.2.1.1 e)
    have n2:=r1.1.1
    omega
   ·exact ih hp (by omega)
  ·omega
theorem QsT {l:List S38} (h:okT l=true) {i:Nat} (hi:i<l.length) (h0:i≠0):0≤Qo6 l i:=Qo7 h hi h0 i (by omega) (Nat.le_refl _)
theorem Qk7 (l:List S38) (hl:l.length≤4194304) (i:Nat) (hi:i<l.length):∀ j:Nat,j≤i→B.Ev (fun k=>QF.l0 k l (i:Int) ((j:Int)-1)) (Qex l i j):=by
 intro j
 have a3:0≤(i:Int):=by omega
 have a4:(i:Int)<(l.length:Int):=by omega
 induction j with
 | zero =>
  intro _
  refine B.Ev.succ ?_
  simp only [QF.l0,Qex,show ¬(((0:Nat):Int)-1≥0) by decide, ↓reduceIte]
  exact B.Ev.pure _
 | succ j ih =>
  intro hj
  refine B.Ev.succ ?_
  have e:((j+1:Nat):Int)-1=(j:Int):=by omega
  have e':wrap64 ((j:Int)-1)=(j:Int)-1:=B.wid (by omega) (by omega)
  have a1:(j:Int)<(l.length:Int):=by omega
  have a2:0≤(j:Int):=by omega
  simp only [QF.l0,Qex,e,e',a1,a2,a3,a4, ↓reduceIte,QbI]
  by_cases c:dep l j≥dep l i
  ·have c':(l.getD j z38).f1≥(l.getD i z38).f1:=c
   simp only [c,c', ↓reduceIte]
   exact ih (by omega)
  ·have c':¬(l.getD j z38).f1≥(l.getD i z38).f1:=c
   simp only [c,c', ↓reduceIte]
   exact B.Ev.pure _
theorem QnB {l:List S38} (h:okT l=true) {i:Nat} (hi:i<l.length):B.Ev (fun k=>QF.f k l (i:Int)) (Qo6 l i):=by
 have hl:=(QaT h).2
 have e':wrap64 ((i:Int)-1)=(i:Int)-1:=B.wid (by omega) (by omega)
 simp only [QF.f,e']
 refine B.Ev.bind (Qi7 l (by omega) _) ?_
 rw [Qc8 h hi]
 simp only [↓reduceIte]
 exact Qk7 l (by omega) i hi i (Nat.le_refl _)
end Go.Proofs.YtallpjhkmcgpoaaGreat.X
end
section
namespace Go.Proofs.YtallpjhkmcgpoaaGreat.X
open Go Go.RowKit Go.Proofs.YtallpjhkmcgpoaaGreat.V Go.Proofs.YtallpjhkmcgpoaaGreat.P
theorem Qny {l:List S38} (h:okT l=true) {i j:Nat} (hi:i<l.length) (hj:j<l.length):B.Ev (fun k=>Qbh.f k l (i:Int) (j:Int)) (decide (i<j∧j<Qbi l i)):=by
 have hl:=(QaT h).2
 simp only [Qbh.f]
 refine B.Ev.bind (Qtz l (by omega) _) ?_
 rw [Qc8 h hi]
 simp only [↓reduceIte]
 refine B.Ev.bind (Qtz l (by omega) _) ?_
 rw [Qc8 h hj]
 simp only [↓reduceIte]
 refine B.Ev.ite (fun c => ?_) (fun c => ?_)
 ·refine B.Ev.bind (QnL h hi) ?_
  exact (B.Ev.pure _).eq (by rw [decide_eq_decide];omega)
 ·exact (B.Ev.pure _).eq (by rw [eq_comm,decide_eq_false_iff_not];omega)
theorem QpG {l:List S38} (h:okT l=true) {i j:Nat} (hi:i<l.length) (hj:j<l.length):B.Ev (fun k=>Qbs.f k l (i:Int) (j:Int)) (decide (i<j∧j<Qbi l i)):=by
 have hl:=(QaT h).2
 simp only [Qbs.f]
 refine B.Ev.bind (Qi7 l (by omega) _) ?_
 rw [Qc8 h hi]
 simp only [↓reduceIte]
 refine B.Ev.bind (Qi7 l (by omega) _) ?_
 rw [Qc8 h hj]
 simp only [↓reduceIte]
 refine B.Ev.ite (fun c => ?_) (fun c => ?_)
 ·refine B.Ev.bind (Qd4 h hi) ?_
  exact (B.Ev.pure _).eq (by rw [decide_eq_decide];omega)
 ·exact (B.Ev.pure _).eq (by rw [eq_comm,decide_eq_false_iff_not];omega)
end Go.Proofs.YtallpjhkmcgpoaaGreat.X
end
section
namespace Go.Proofs.YtallpjhkmcgpoaaGreat.X
open Go Go.RowKit Go.Proofs.YtallpjhkmcgpoaaGreat.V Go.Proofs.YtallpjhkmcgpoaaGreat.P
theorem Qc3 {xs:List S40} {i:Nat} : Qah xs (i:Int)=xs.getD i z40:=by unfold Qah;rw [Int.toNat_natCast]
def pA (m:List S40) (i:Nat):Int:=(m.getD i z40).f0
def pB (m:List S40) (i:Nat):Int:=(m.getD i z40).f1
def Qn5 (a b:List S38) (m:List S40) (i h:Nat):Bool:=decide ((pA m i<(Qbi a (pA m h).toNat:Int))↔(pB m i<(Qbi b (pB m h).toNat:Int)))
def chk (a b:List S38) (m:List S40) (i:Nat):Bool :=
 QgF a (pA m i) && QgF b (pB m i) && (decide (i=0) || decide (pA m (i-1)<pA m i∧pB m (i-1)<pB m i)) && (List.range i).all (Qn5 a b m i)
def okM (a b:List S38) (m:List S40):Bool:=(okT a && okT b) && (List.range m.length).all (chk a b m)
theorem Qb2 {a b:List S38} {m:List S40} {i:Nat} : chk a b m i=true↔(QgF a (pA m i)=true∧QgF b (pB m i)=true)∧(i=0∨(pA m (i-1)<pA m i∧pB m (i-1)<pB m i))∧∀ h,h<i→Qn5 a b m i h=true:=by
 unfold chk;simp [and_assoc]
def Qop (a b:List S38) (m:List S40) (n:Nat):Prop:=∀ i,i<n→chk a b m i=true
theorem Qop.inc {a b:List S38} {m:List S40} {n:Nat} (h:Qop a b m n) {i j:Nat} (hij:i<j) (hj:j<n):pA m i<pA m j∧pB m i<pB m j:=by
 induction j with
 | zero=>omega
 | succ j ih =>
  have h1:=(Qb2.1 (h (j+1) hj)).2.1
  simp only [Nat.add_sub_cancel] at h1
  rcases Nat.lt_or_ge i j with c|c
  ·have h2:=ih c (by omega);omega
  ·obtain rfl:i=j:=by omega
   omega
theorem Qh4 {a b:List S38} {m:List S40} {i:Nat} (hi:i<m.length) (h:chk a b m i=false):okM a b m=false:=by
 unfold okM
 rw [Bool.and_eq_false_iff]
 right
 rw [Bool.eq_false_iff]
 intro hc
 rw [List.all_eq_true.1 hc i (List.mem_range.2 hi)] at h
 cases h
theorem Qmo {a b:List S38} {m:List S40} (h:Qop a b m m.length):okM a b m=(okT a && okT b):=by
 unfold okM
 rw [List.all_eq_true.2 fun i hi=>h i (List.mem_range.1 hi),Bool.and_true]
theorem Qop.succ {a b:List S38} {m:List S40} {n:Nat} (h:Qop a b m n) (hn:chk a b m n=true):Qop a b m (n+1):=by
 intro i hi
 rcases Nat.lt_or_ge i n with c|c
 ·exact h i c
 ·obtain rfl:i=n:=by omega
  exact hn
theorem Qda {a b:List S38} {m:List S40} {i:Nat} (h:¬chk a b m i=true):chk a b m i=false:=Bool.eq_false_iff.2 h
theorem QnF (a b:List S38) (m:List S40) (ha:a.length≤4194304) (hb:b.length≤4194304) (hm:m.length≤4194304):B.Ev (fun k=>Qu.f k a b m) (okM a b m):=by
 simp only [Qu.f]
 have key:∀ i,i≤m.length→Qop a b m i→B.Ev (fun k=>Qu.l0 k a b m (i:Int)) (okM a b m):=by
  refine B.Ev.loop (g:=fun k i=>Qu.l0 k a b m (i:Int)) m.length (Qop a b m) (fun hU => ?_) ?_
  ·refine B.Ev.succ ?_
   simp only [Qu.l0,Int.lt_irrefl, ↓reduceIte]
   refine B.Ev.bind (B.Ev.of _ (fun k hk=>Qcl a ha k hk)) ?_
   rw [Qmo hU]
   refine B.Ev.ite (fun h => ?_) (fun h => ?_)
   ·refine B.Ev.bind (B.Ev.of _ (fun k hk=>Qcl b hb k hk)) ?_
    exact (B.Ev.pure _).eq (by rw [h,Bool.true_and])
   ·exact (B.Ev.pure _).eq (by simp [h])
  ·intro i hi hU ih
   have out:chk a b m i=false→B.Ev (fun k=>some false) (okM a b m):=fun h=>(B.Ev.pure _).eq (Qh4 hi h).symm
   have inn:QgF a (pA m i)=true→QgF b (pB m i)=true→(i=0∨pA m (i-1)<pA m i)→B.Ev (fun k=>Qu.l1 k a b m (i:Int) 0) (okM a b m):=fun h1 h2 h3=>by
    have hA:∀ h,h<i→pA m h<pA m i:=fun h hh=>by
     rcases h3 with h3|h3
     ·omega
     ·rcases Nat.lt_or_ge h (i-1) with c|c
      ·have:=(hU.inc c (by omega)).1;omega
      ·obtain rfl:h=i-1:=by omega
       exact h3
    have keyh:∀ h,h≤i→(∀ g,g<h→pB m g<pB m i∧Qn5 a b m i g=true)→B.Ev (fun k=>Qu.l1 k a b m (i:Int) (h:Int)) (okM a b m):=by
     refine B.Ev.loop (g:=fun k h=>Qu.l1 k a b m (i:Int) (h:Int)) i (fun h=>∀ g,g<h→pB m g<pB m i∧Qn5 a b m i g=true) (fun hV => ?_) ?_
     ·refine B.Ev.succ ?_
      simp only [Qu.l1,Int.lt_irrefl, ↓reduceIte,B.wsucc (show i<9223372036854775807 by omega)]
      have hc:chk a b m i=true:=by
       rw [Qb2]
       refine ⟨⟨h1,h2⟩, ?_,fun h hh=>(hV h hh).2⟩
       rcases Nat.eq_zero_or_pos i with c|c
       ·exact Or.inl c
       ·exact Or.inr ⟨hA _ (by omega),(hV _ (by omega)).1⟩
      exact ih (hU.succ hc)
     ·intro h hh hV ihh
      refine B.Ev.succ ?_
      simp only [Qu.l1,show (h:Int)<(i:Int) by omega,show 0≤(h:Int) by omega,show (h:Int)<(m.length:Int) by omega,show 0≤(i:Int) by omega,show (i:Int)<(m.length:Int) by omega, ↓reduceIte,Qc3,B.wsucc (show h<9223372036854775807 by omega)]
      refine B.Ev.ite (fun c => ?_) (fun c => ?_)
      ·refine out (Qda fun hc => ?_)
       have:=(hU.succ hc).inc hh (Nat.lt_succ_self i)
       have c':pB m h≥pB m i:=c
       omega
      ·have c':¬pB m h≥pB m i:=c
       have hch:=(Qb2.1 (hU h hh)).1
       obtain ⟨x,ex,hx⟩:=Qc5 h1
       obtain ⟨y,ey,hy⟩:=Qc5 h2
       obtain ⟨x',ex',hx'⟩:=Qc5 hch.1
       obtain ⟨y',ey',hy'⟩:=Qc5 hch.2
       have q1:=hA h hh
       simp only [show (m.getD i z40).f0=(x:Int) from ex,show (m.getD i z40).f1=(y:Int) from ey,show (m.getD h z40).f0=(x':Int) from ex',show (m.getD h z40).f1=(y':Int) from ey']
       refine B.Ev.bind (Qny (Qfw h1) hx' hx) ?_
       refine B.Ev.bind (Qny (Qfw h2) hy' hy) ?_
       have hu:Qn5 a b m i h=decide ((x<Qbi a x')↔(y<Qbi b y')):=by
        unfold Qn5
        rw [ex,ey,ex',ey',Int.toNat_natCast,Int.toNat_natCast,decide_eq_decide]
        omega
       refine B.Ev.ite (fun g => ?_) (fun g => ?_)
       ·refine ihh fun g' hg => ?_
        rcases Nat.lt_or_ge g' h with d|d
        ·exact hV g' d
        ·obtain rfl:g'=h:=by omega
         refine ⟨by omega, ?_⟩
         rw [hu,decide_eq_true_eq];rw [decide_eq_decide] at g;omega
       ·refine out (Qda fun hc => ?_)
        have:=(Qb2.1 hc).2.2 h hh
        rw [hu,decide_eq_true_eq] at this
        apply g;rw [decide_eq_decide];omega
    exact keyh 0 (Nat.zero_le _) (fun g hg=>absurd hg (Nat.not_lt_zero _))
   refine B.Ev.succ ?_
   simp only [Qu.l0,show (i:Int)<(m.length:Int) by omega,show 0≤(i:Int) by omega, ↓reduceIte,Qc3]
   refine B.Ev.bind (Qtz a ha _) ?_
   refine B.Ev.ite (fun c1 => ?_) (fun c1=>out (Qda fun hc=>c1 (Qb2.1 hc).1.1))
   refine B.Ev.bind (Qtz b hb _) ?_
   refine B.Ev.ite (fun c2 => ?_) (fun c2=>out (Qda fun hc=>c2 (Qb2.1 hc).1.2))
   rcases i with _|j
   ·simp only [show ¬(((0:Nat):Int) > 0) by decide, ↓reduceIte]
    exact inn c1 c2 (Or.inl rfl)
   ·have e:wrap64 (((j+1:Nat):Int)-1)=(j:Int):=by rw [B.wid (by omega) (by omega)];omega
    simp only [show ((j+1:Nat):Int) > 0 by omega,e,show 0≤(j:Int) by omega,show (j:Int)<(m.length:Int) by omega, ↓reduceIte,Qc3]
    refine B.Ev.ite (fun c3 => ?_) (fun c3 => ?_)
    ·refine out (Qda fun hc => ?_)
     have h3:=(Qb2.1 hc).2.1
     simp only [Nat.add_sub_cancel] at h3
     have c3':pA m (j+1)≤pA m j:=c3
     omega
    ·have c3':¬pA m (j+1)≤pA m j:=c3
     exact inn c1 c2 (Or.inr (by simp only [Nat.add_sub_cancel];omega))
 exact key 0 (Nat.zero_le _) (fun g hg=>absurd hg (Nat.not_lt_zero _))
theorem Qkk (a b:List S38) (m:List S40) (ha:a.length≤4194304) (hb:b.length≤4194304) (hm:m.length≤4194304):B.Ev (fun k=>Qt.f k a b m) (okM a b m):=by
 simp only [Qt.f]
 refine B.Ev.bind (B.Ev.of _ (fun k hk=>Qb7 a ha k hk)) ?_
 refine B.Ev.ite (fun ta => ?_) (fun ta=>(B.Ev.pure _).eq (by unfold okM;simp [ta]))
 refine B.Ev.bind (B.Ev.of _ (fun k hk=>Qb7 b hb k hk)) ?_
 refine B.Ev.ite (fun tb => ?_) (fun tb=>(B.Ev.pure _).eq (by unfold okM;simp [tb]))
 have key:∀ i,i≤m.length→Qop a b m i→B.Ev (fun k=>Qt.l0 k a b m m (m.length:Int) (i:Int)) (okM a b m):=by
  refine B.Ev.loop (g:=fun k i=>Qt.l0 k a b m m (m.length:Int) (i:Int)) m.length (Qop a b m) (fun hU => ?_) ?_
  ·refine B.Ev.succ ?_
   simp only [Qt.l0,Int.lt_irrefl, ↓reduceIte]
   exact (B.Ev.pure _).eq (by rw [Qmo hU,ta,tb];rfl)
  ·intro i hi hU ih
   have out:chk a b m i=false→B.Ev (fun k=>some false) (okM a b m):=fun h=>(B.Ev.pure _).eq (Qh4 hi h).symm
   have inn:QgF a (pA m i)=true→QgF b (pB m i)=true→(i=0∨(pA m (i-1)<pA m i∧pB m (i-1)<pB m i))→B.Ev (fun k=>Qt.l1 k a b m m (m.length:Int) (i:Int) (m.take i) ((m.take i).length:Int) 0 (pA m i) (pB m i)) (okM a b m):=fun h1 h2 h3=>by
    have hl:(m.take i).length=i:=by rw [List.length_take];omega
    have hgt:∀ h,h<i→(m.take i).getD h z40=m.getD h z40:=fun h hh=>by
     rw [List.getD_eq_getElem?_getD,List.getD_eq_getElem?_getD,List.getElem?_take_of_lt hh]
    rw [hl]
    have keyh:∀ h,h≤i→(∀ g,g<h→Qn5 a b m i g=true)→B.Ev (fun k=>Qt.l1 k a b m m (m.length:Int) (i:Int) (m.take i) (i:Int) (h:Int) (pA m i) (pB m i)) (okM a b m):=by
     refine B.Ev.loop (g:=fun k h=>Qt.l1 k a b m m (m.length:Int) (i:Int) (m.take i) (i:Int) (h:Int) (pA m i) (pB m i)) i (fun h=>∀ g,g<h→Qn5 a b m i g=true) (fun hV => ?_) ?_
     ·refine B.Ev.succ ?_
      simp only [Qt.l1,Int.lt_irrefl, ↓reduceIte,B.wsucc (show i<9223372036854775807 by omega)]
      exact ih (hU.succ (Qb2.2 ⟨⟨h1,h2⟩,h3,hV⟩))
     ·intro h hh hV ihh
      refine B.Ev.succ ?_
      have hch:=(Qb2.1 (hU h hh)).1
      obtain ⟨x',ex',hx'⟩:=Qc5 hch.1
      obtain ⟨y',ey',hy'⟩:=Qc5 hch.2
      simp only [Qt.l1,show (h:Int)<(i:Int) by omega,show 0≤(h:Int) by omega,hl, ↓reduceIte,Qc3,hgt h hh,show (m.getD h z40).f0=(x':Int) from ex',show (m.getD h z40).f1=(y':Int) from ey',B.wsucc (show h<9223372036854775807 by omega)]
      refine B.Ev.bind (Qd4 (Qfw h1) hx') ?_
      refine B.Ev.bind (Qd4 (Qfw h2) hy') ?_
      have hu:Qn5 a b m i h=decide ((pA m i<(Qbi a x':Int))↔(pB m i<(Qbi b y':Int))):=by
       unfold Qn5
       rw [ex',ey',Int.toNat_natCast,Int.toNat_natCast]
      refine B.Ev.ite (fun g => ?_) (fun g => ?_)
      ·refine ihh fun g' hg => ?_
       rcases Nat.lt_or_ge g' h with d|d
       ·exact hV g' d
       ·obtain rfl:g'=h:=by omega
        rw [hu,decide_eq_true_eq];rw [decide_eq_decide] at g;exact g
      ·refine out (Qda fun hc => ?_)
       have:=(Qb2.1 hc).2.2 h hh
       rw [hu,decide_eq_true_eq] at this
       apply g;rw [decide_eq_decide];exact this
    exact keyh 0 (Nat.zero_le _) (fun g hg=>absurd hg (Nat.not_lt_zero _))
   refine B.Ev.succ ?_
   simp only [Qt.l0,show (i:Int)<(m.length:Int) by omega,show 0≤(i:Int) by omega,show (i:Int)≤(m.length:Int) by omega, ↓reduceIte,Qc3,Int.toNat_natCast,Option.bind_some]
   refine B.Ev.bind (Qi7 a ha _) ?_
   refine B.Ev.ite (fun c1 => ?_) (fun c1=>out (Qda fun hc=>c1 (Qb2.1 hc).1.1))
   refine B.Ev.bind (Qi7 b hb _) ?_
   refine B.Ev.ite (fun c2 => ?_) (fun c2=>out (Qda fun hc=>c2 (Qb2.1 hc).1.2))
   rcases i with _|j
   ·simp only [show ¬(((0:Nat):Int) > 0) by decide, ↓reduceIte]
    exact inn c1 c2 (Or.inl rfl)
   ·have e:wrap64 (((j+1:Nat):Int)-1)=(j:Int):=by rw [B.wid (by omega) (by omega)];omega
    simp only [show ((j+1:Nat):Int) > 0 by omega,e,show 0≤(j:Int) by omega,show (j:Int)<(m.length:Int) by omega, ↓reduceIte,Qc3]
    refine B.Ev.ite (fun c3 => ?_) (fun c3 => ?_)
    ·refine out (Qda fun hc => ?_)
     have h3:=(Qb2.1 hc).2.1
     simp only [Nat.add_sub_cancel] at h3
     have c3':pA m (j+1)≤pA m j:=c3
     omega
    ·refine B.Ev.ite (fun c4 => ?_) (fun c4 => ?_)
     ·refine out (Qda fun hc => ?_)
      have h3:=(Qb2.1 hc).2.1
      simp only [Nat.add_sub_cancel] at h3
      have c4':pB m (j+1)≤pB m j:=c4
      omega
     ·have c3':¬pA m (j+1)≤pA m j:=c3
      have c4':¬pB m (j+1)≤pB m j:=c4
      exact inn c1 c2 (Or.inr (by simp only [Nat.add_sub_cancel];omega))
 exact key 0 (Nat.zero_le _) (fun g hg=>absurd hg (Nat.not_lt_zero _))
end Go.Proofs.YtallpjhkmcgpoaaGreat.X
end
section
namespace Go.Proofs.YtallpjhkmcgpoaaGreat.X
open Go Go.RowKit Go.Proofs.YtallpjhkmcgpoaaGreat.V Go.Proofs.YtallpjhkmcgpoaaGreat.P
theorem Qy1 {b:List Int} (hb:b.length≤4194304) {i:Int} (h:Int) (h0:0≤i) (h1:i≤(b.length:Int)) (x y:List S38) (hx:x.length≤1010) (hy:y.length≤1010):B.EvP (fun k=>Qx.f k b i h x y) (B.Cu b fun m=>1≤m.length∧m.length≤1012):=by
 have key:∀ (n t:Nat) (m:List S40) (i h:Int),x.length≤t+n→1≤m.length→m.length≤t→m.length≤1012-n→n≤1011→0≤i→i≤(b.length:Int)→t≤1012→B.EvP (fun k=>Qx.l0 k x y m (t:Int) b i h) (B.Cu b fun m=>1≤m.length∧m.length≤1012):=by
  intro n
  induction n with
  | zero =>
   intro t m i h ht hm hm2 hm3 _ h0 h1 _
   refine B.EvP.succ ?_
   simp only [Qx.l0,show ¬((t:Int)<(x.length:Int)) by omega, ↓reduceIte]
   exact B.EvP.pure ⟨⟨hm,by omega⟩,h0,h1⟩
  | succ n ih =>
   intro t m i h ht hm hm2 hm3 hn h0 h1 ht2
   refine B.EvP.succ ?_
   simp only [Qx.l0]
   refine B.EvP.ite (fun c => ?_) (fun c=>B.EvP.pure ⟨⟨hm,by simp only;omega⟩,h0,h1⟩)
   have hw:=B.wsucc (show t<9223372036854775807 by omega)
   have inner:∀ (u v:Nat) (i h:Int),v+u=3→0≤i→i≤(b.length:Int)→B.EvP (fun k=>Qx.l1 k x y m (t:Int) (v:Int) b i h) (B.Cu b fun m=>1≤m.length∧m.length≤1012):=by
    intro u
    induction u with
    | zero =>
     intro v i h hv h0 h1
     refine B.EvP.succ ?_
     simp only [Qx.l1,show ¬((v:Int)<3) by omega, ↓reduceIte,hw]
     exact ih (t+1) m i h (by omega) hm (by omega) (by omega) (by omega) h0 h1 (by omega)
    | succ u ihu =>
     intro v i h hv h0 h1
     refine B.EvP.succ ?_
     have e1:wrap64 ((m.length:Int)-1)=(m.length:Int)-1:=B.wid (by omega) (by omega)
     simp only [Qx.l1,show ((v:Int)<3) by omega,e1,show 0≤(m.length:Int)-1 by omega,show (m.length:Int)-1<(m.length:Int) by omega,show m.length * 16≤140737488355328 by omega,show m.length<8796093022208 by omega, ↓reduceIte,hw,B.wsucc (show v<9223372036854775807 by omega),Option.bind_some]
     refine B.EvP.bind (Qbl hb h 3 h0 h1) ?_
     rintro ⟨w,i,h⟩ ⟨_,h0,h1⟩
     refine B.EvP.bind (B.EvP.of (QnF x y _ (by omega) (by omega) (by rw [List.length_append,List.length_singleton];omega)) (P:=fun _=>True) trivial) ?_
     rintro g _
     refine B.EvP.ite (fun _ => ?_) (fun _=>ihu (v+1) i h (by omega) h0 h1)
     exact ih (t+1) _ i h (by omega) (by rw [List.length_append,List.length_singleton];omega) (by rw [List.length_append,List.length_singleton];omega) (by rw [List.length_append,List.length_singleton];omega) (by omega) h0 h1 (by omega)
   exact inner 3 0 i h (by omega) h0 h1
 simp only [Qx.f]
 exact key 1010 1 _ i h (by omega) (by simp) (by simp) (by simp) (by omega) h0 h1 (by omega)
theorem QpT {b:List Int} (hb:b.length≤4194304) {i:Int} (h:Int) (h0:0≤i) (h1:i≤(b.length:Int)) (x y:List S38) (hx:x.length≤1010) (hy:y.length≤1010):B.EvP (fun k=>Qbd.f k b i h x y) (B.Cu b fun m=>m.length≤1013):=by
 simp only [Qbd.f]
 refine B.EvP.bind (Qy1 hb h h0 h1 x y hx hy) ?_
 rintro ⟨m,i,h⟩ ⟨⟨hm,hm2⟩,h0,h1⟩
 simp only at hm hm2
 refine B.EvP.bind (Qbl hb h (m.length:Int) h0 h1) ?_
 rintro ⟨v,i,h⟩ ⟨q,h0,h1⟩
 have q1:=q.1
 have q2:=q.2.1 (by omega)
 refine B.EvP.bind (Qbl hb h 12 h0 h1) ?_
 rintro ⟨w,i,h⟩ ⟨_,h0,h1⟩
 simp only at q1 q2 ⊢
 refine B.EvP.ite (fun _ => ?_) (fun _ => ?_)
 ·refine B.EvP.bind (Qbl hb h _ h0 h1) ?_
  rintro ⟨w2,i,h⟩ ⟨_,h0,h1⟩
  simp only [q1,q2, ↓reduceIte]
  exact B.EvP.pure ⟨by simp only [List.length_set];omega,h0,h1⟩
 refine B.EvP.ite (fun _ => ?_) (fun _ => ?_)
 ·refine B.EvP.bind (Qbl hb h _ h0 h1) ?_
  rintro ⟨w2,i,h⟩ ⟨_,h0,h1⟩
  simp only [q1,q2, ↓reduceIte]
  exact B.EvP.pure ⟨by simp only [List.length_set];omega,h0,h1⟩
 refine B.EvP.ite (fun _ => ?_) (fun _ => ?_)
 ·simp only [show 1≤(m.length:Int) by omega, ↓reduceIte,Option.bind_some]
  exact B.EvP.pure ⟨by simp only [List.length_drop];omega,h0,h1⟩
 refine B.EvP.ite (fun _ => ?_) (fun _=>B.EvP.pure ⟨by simp only;omega,h0,h1⟩)
 simp only [q1,q2,show m.length<8796093022208 by omega, ↓reduceIte]
 exact B.EvP.pure ⟨by simp only [List.length_append,List.length_singleton];omega,h0,h1⟩
theorem QnP (b:List Int) (hb:b.length≤4194304):B.EvP (fun k=>QaD.f k b) (fun t=>t.1.length≤1010∧t.2.1.length≤1010∧t.2.2.1.length≤36∧t.2.2.2.1.length≤36∧t.2.2.2.2.1.length≤36∧t.2.2.2.2.2.length≤1013):=by
 simp only [QaD.f,Qbb.f]
 refine B.EvP.bind (Qy0 b hb) ?_
 rintro ⟨b',i,h⟩ ⟨e1,e2⟩
 simp only at e1 e2
 subst e1 e2
 refine B.EvP.bind (P:=fun t=>t.1.length≤1010∧t.2.1.length≤1010∧t.2.2.1.length≤36∧t.2.2.2.1.length≤36∧t.2.2.2.2.1.length≤36∧t.2.2.2.2.2.1.length≤1013) ?_ ?_
 ·refine B.EvP.bind (QyZ hb h (by simp only;omega) (by simp only;omega) 8 (by omega)) ?_
  rintro ⟨x,y,d,e,r,i,h⟩ ⟨⟨hx,hy,hd,he,hr⟩,h0,h1⟩
  refine B.EvP.bind (QpT hb h h0 h1 x y hx hy) ?_
  rintro ⟨m,i,h⟩ ⟨hm,h0,h1⟩
  exact B.EvP.pure ⟨hx,hy,hd,he,hr,hm⟩
 ·rintro ⟨x,y,d,e,r,m,i,h⟩ hh
  exact B.EvP.pure hh
end Go.Proofs.YtallpjhkmcgpoaaGreat.X
end
section
namespace Go.Proofs.YtallpjhkmcgpoaaGreat.X
open Go Go.RowKit Go.Proofs.YtallpjhkmcgpoaaGreat.V Go.Proofs.YtallpjhkmcgpoaaGreat.P
theorem QhI (l:List S38) {i j:Nat} (hj:j<l.length):(i<j∧j<Qbi l i)↔(i<j∧∀ g,i<g→g≤j→dep l g > dep l i):=by
 constructor
 ·rintro ⟨h1,h2⟩
  exact ⟨h1,fun g g1 g2=>(Qbo l (by omega)).2.2.1 g g1 (by omega)⟩
 ·rintro ⟨h1,h2⟩
  refine ⟨h1, ?_⟩
  have hs:=Qbo l (show i<l.length by omega)
  rcases Nat.lt_or_ge j (Qbi l i) with c|c
  ·exact c
  ·have:=hs.2.2.2 (by omega)
   have:=h2 (Qbi l i) (by omega) c
   omega
theorem QkV (l:List S38) (i:Nat):∀ j,Qex l i j<(j:Int) ∧ -1≤Qex l i j∧(∀ g:Nat,Qex l i j<(g:Int)→g<j→dep l g≥dep l i)∧(0≤Qex l i j→dep l (Qex l i j).toNat<dep l i):=by
 intro j
 induction j with
 | zero=>simp only [Qex];exact ⟨by omega,by omega,fun g _ h=>by omega,fun h=>by omega⟩
 | succ j ih =>
  simp only [Qex]
  split
  ·next c =>
   obtain ⟨h1,h2,h3,h4⟩:=ih
   refine ⟨by omega,h2,fun g g1 g2 => ?_,h4⟩
   rcases Nat.lt_or_ge g j with d|d
   ·exact h3 g g1 d
   ·obtain rfl:g=j:=by omega
    exact c
  ·next c=>exact ⟨by omega,by omega,fun g g1 g2=>by omega,fun _=>by rw [Int.toNat_natCast];omega⟩
theorem QfM (l:List S38) (i:Nat):Qo6 l i<(i:Int) ∧ -1≤Qo6 l i∧(∀ g:Nat,Qo6 l i<(g:Int)→g<i→dep l g≥dep l i)∧(0≤Qo6 l i→dep l (Qo6 l i).toNat<dep l i):=QkV l i i
end Go.Proofs.YtallpjhkmcgpoaaGreat.X
end
section
namespace Go.Proofs.YtallpjhkmcgpoaaGreat.P
open Go Go.RowKit Go.Proofs.YtallpjhkmcgpoaaGreat.V
def Qbv.l0:Nat→(List S38)→Int→(List Int)→Int→Option (List Int)
 | 0,_,_,_,_=>none
 | k+1,l0,a1,x5,x6=>(QaW.f k l0 a1).bind fun t1=>(if t1=true then ((Q2.f k l0 a1).bind fun t2=>(if x6<t2 then (if 0≤x6 then (if x6<(l0.length:Int) then (if 0≤a1 then (if a1<(l0.length:Int) then (if ((Qac l0 x6).f1)=(wrap64 (((Qac l0 a1).f1)+1)) then (if x5.length<17592186044416 then (Qbv.l0 k l0 a1 (x5++([x6])) (wrap64 (x6+1))) else none) else (Qbv.l0 k l0 a1 x5 (wrap64 (x6+1)))) else none) else none) else none) else none) else (some x5))) else (some x5))
def Qbv.f (k:Nat) (l0:List S38) (a1:Int):Option (List Int):=Qbv.l0 k l0 a1 ([]:List Int) (wrap64 (a1+1))
end Go.Proofs.YtallpjhkmcgpoaaGreat.P
end
section
namespace Go.Proofs.YtallpjhkmcgpoaaGreat.X
open Go Go.RowKit Go.Proofs.YtallpjhkmcgpoaaGreat.V Go.Proofs.YtallpjhkmcgpoaaGreat.P
theorem QdO (l:List S38) {x y:Nat} (hy:y<l.length) (h:x<y) (h2:y<Qbi l x):Qbi l y≤Qbi l x:=by
 have a:=Qbo l (show x<l.length by omega)
 have b:=Qbo l hy
 rcases Nat.lt_or_ge (Qbi l x) (Qbi l y) with c|c
 ·have d1:=a.2.2.2 (by omega)
  have d2:=b.2.2.1 (Qbi l x) h2 c
  have d3:=a.2.2.1 y h h2
  omega
 ·exact c
def QgE (l:List S38) (i a b:Nat):List Nat:=(List.range' a (b-a)).filter fun j=>decide (dep l j=dep l i+1)
def QbV (l:List S38) (i:Nat):List Nat:=QgE l i (i+1) (Qbi l i)
theorem Qh8 (l:List S38) (i a b:Nat) (h:a≤b):QgE l i a (b+1)=QgE l i a b++if dep l b=dep l i+1 then [b] else []:=by
 unfold QgE
 rw [show b+1-a=(b-a)+1 by omega,List.range'_concat,List.filter_append,show a+1 * (b-a)=b by omega]
 split <;> rename_i c
 ·rw [List.filter_cons_of_pos (by simp [c])];rfl
 ·rw [List.filter_cons_of_neg (by simp [c])];rfl
theorem Qfv (l:List S38) (i a b:Nat):(QgE l i a b).length≤b-a:=by
 unfold QgE
 exact Nat.le_trans (List.length_filter_le _ _) (by simp)
theorem Qj1 (l:List S38) (i b:Nat):QgE l i b b=[]:=by unfold QgE;simp
theorem QnI {l:List S38} (h:okT l=true) {i:Nat} (hi:i<l.length):B.Ev (fun k=>Qbv.f k l (i:Int)) ((QbV l i).map fun (j:Nat)=>(j:Int)):=by
 have hl:=(QaT h).2
 have a:=Qbo l hi
 simp only [Qbv.f,B.wsucc (show i<9223372036854775807 by omega)]
 have e0:([]:List Int)=(QgE l i (i+1) (i+1)).map fun (j:Nat)=>(j:Int):=by rw [Qj1];rfl
 rw [e0]
 have a3:0≤(i:Int):=by omega
 have a4:(i:Int)<(l.length:Int):=by omega
 refine B.Ev.loop (g:=fun k j=>Qbv.l0 k l (i:Int) ((QgE l i (i+1) j).map fun (j:Nat)=>(j:Int)) (j:Int)) (Qbi l i) (fun j=>i+1≤j) ?_ ?_ (i+1) (by omega) (Nat.le_refl _)
 ·intro _
  refine B.Ev.succ ?_
  simp only [Qbv.l0]
  refine B.Ev.bind (Qtz l (by omega) _) ?_
  rw [Qc8 h hi]
  simp only [↓reduceIte]
  refine B.Ev.bind (QnL h hi) ?_
  simp only [Int.lt_irrefl, ↓reduceIte]
  exact B.Ev.pure _
 ·intro j hj hI ih
  refine B.Ev.succ ?_
  simp only [Qbv.l0]
  refine B.Ev.bind (Qtz l (by omega) _) ?_
  rw [Qc8 h hi]
  simp only [↓reduceIte]
  refine B.Ev.bind (QnL h hi) ?_
  have a1:(j:Int)<(l.length:Int):=by omega
  have a2:0≤(j:Int):=by omega
  have a5:(j:Int)<(Qbi l i:Int):=by omega
  have d:=Qcd h hi
  have ew:wrap64 (dep l i+1)=dep l i+1:=B.wid (by omega) (by omega)
  have ew':wrap64 ((l.getD i z38).f1+1)=(l.getD i z38).f1+1:=ew
  have hk:=Qfv l i (i+1) j
  have lm:((QgE l i (i+1) j).map fun (j:Nat)=>(j:Int)).length<17592186044416:=by rw [List.length_map];omega
  simp only [a1,a2,a3,a4,a5,lm, ↓reduceIte,QbI,ew',B.wsucc (show j<9223372036854775807 by omega)]
  have ih:=ih (by omega)
  rw [Qh8 l i (i+1) j hI] at ih
  by_cases c:dep l j=dep l i+1
  ·have c':(l.getD j z38).f1=(l.getD i z38).f1+1:=c
   simp only [c', ↓reduceIte]
   simp only [c, ↓reduceIte,List.map_append,List.map_cons,List.map_nil] at ih
   exact ih
  ·have c':¬(l.getD j z38).f1=(l.getD i z38).f1+1:=c
   simp only [c', ↓reduceIte]
   simp only [c, ↓reduceIte,List.append_nil] at ih
   exact ih
end Go.Proofs.YtallpjhkmcgpoaaGreat.X
end
section
namespace Go.Proofs.YtallpjhkmcgpoaaGreat.X
open Go Go.RowKit Go.Proofs.YtallpjhkmcgpoaaGreat.V Go.Proofs.YtallpjhkmcgpoaaGreat.P
theorem Qf3 {l:List S38} (h:okT l=true) {i:Nat} (hi:i<l.length):B.Ev (fun k=>QS.f k l (i:Int)) ((QbV l i).map fun (j:Nat)=>(j:Int)):=by
 have hl:=(QaT h).2
 have a:=Qbo l hi
 simp only [QS.f,Option.bind_some,B.wsucc (show i<9223372036854775807 by omega)]
 refine B.Ev.bind (Qi7 l (by omega) _) ?_
 rw [Qc8 h hi]
 simp only [↓reduceIte]
 have e0:([]:List Int)=(QgE l i (i+1) (i+1)).map fun (j:Nat)=>(j:Int):=by rw [Qj1];rfl
 rw [e0]
 have a3:0≤(i:Int):=by omega
 have a4:(i:Int)<(l.length:Int):=by omega
 refine B.Ev.loop (g:=fun k j=>QS.l0 k l (i:Int) ((QgE l i (i+1) j).map fun (j:Nat)=>(j:Int)) (j:Int)) (Qbi l i) (fun j=>i+1≤j) ?_ ?_ (i+1) (by omega) (Nat.le_refl _)
 ·intro _
  refine B.Ev.succ ?_
  simp only [QS.l0]
  refine B.Ev.bind (Qd4 h hi) ?_
  simp only [Int.lt_irrefl, ↓reduceIte]
  exact B.Ev.pure _
 ·intro j hj hI ih
  refine B.Ev.succ ?_
  simp only [QS.l0]
  refine B.Ev.bind (Qd4 h hi) ?_
  have a1:(j:Int)<(l.length:Int):=by omega
  have a2:0≤(j:Int):=by omega
  have a5:(j:Int)<(Qbi l i:Int):=by omega
  have d:=Qcd h hi
  have ew:wrap64 (dep l i+1)=dep l i+1:=B.wid (by omega) (by omega)
  have ew':wrap64 ((l.getD i z38).f1+1)=(l.getD i z38).f1+1:=ew
  have hk:=Qfv l i (i+1) j
  have lm:((QgE l i (i+1) j).map fun (j:Nat)=>(j:Int)).length<17592186044416:=by rw [List.length_map];omega
  simp only [a1,a2,a3,a4,a5,lm, ↓reduceIte,QbI,ew',B.wsucc (show j<9223372036854775807 by omega)]
  have ih:=ih (by omega)
  rw [Qh8 l i (i+1) j hI] at ih
  by_cases c:dep l j=dep l i+1
  ·have c':(l.getD j z38).f1=(l.getD i z38).f1+1:=c
   simp only [c', ↓reduceIte]
   simp only [c, ↓reduceIte,List.map_append,List.map_cons,List.map_nil] at ih
   exact ih
  ·have c':¬(l.getD j z38).f1=(l.getD i z38).f1+1:=c
   simp only [c', ↓reduceIte]
   simp only [c, ↓reduceIte,List.append_nil] at ih
   exact ih
end Go.Proofs.YtallpjhkmcgpoaaGreat.X
end
section
namespace Go.Proofs.YtallpjhkmcgpoaaGreat.X
open Go Go.RowKit Go.Proofs.YtallpjhkmcgpoaaGreat.V Go.Proofs.YtallpjhkmcgpoaaGreat.P
theorem QsQ {xs:List Int} {i:Nat} : rd xs (i:Int)=xs.getD i 0:=by unfold rd;rw [Int.toNat_natCast]
end Go.Proofs.YtallpjhkmcgpoaaGreat.X
end
section
namespace Go.Proofs.YtallpjhkmcgpoaaGreat.X
open Go Go.RowKit Go.Proofs.YtallpjhkmcgpoaaGreat.V Go.Proofs.YtallpjhkmcgpoaaGreat.P
section
variable {α:Type} (z:α)
def QkQ (xs:List α) (t:Nat):List α:=(List.range xs.length).map fun p=>if p<t∨xs.length≤p+t then xs.getD (xs.length-1-p) z else xs.getD p z
theorem QbZ (xs:List α) (t:Nat):(QkQ z xs t).length=xs.length:=by simp [QkQ]
theorem QdX (xs:List α) (t:Nat) {p:Nat} (h:p<xs.length):(QkQ z xs t).getD p z=if p<t∨xs.length≤p+t then xs.getD (xs.length-1-p) z else xs.getD p z:=by
 rw [B.getD_lt (by rw [QbZ];exact h)]
 simp [QkQ]
theorem Ql4 (xs:List α):QkQ z xs 0=xs:=by
 apply List.ext_getElem
 ·exact QbZ z _ _
 ·intro p h1 h2
  rw [←B.getD_lt (z:=z) h1,QdX z xs 0 h2,if_neg (by omega),B.getD_lt h2]
theorem QhT (xs:List α) {t:Nat} (h:xs.length≤2 * t+1):QkQ z xs t=xs.reverse:=by
 apply List.ext_getElem
 ·simp [QbZ]
 ·intro p h1 h2
  have hp:p<xs.length:=by simpa [QbZ] using h1
  rw [←B.getD_lt (z:=z) h1,QdX z xs t hp,List.getElem_reverse]
  split
  ·rw [B.getD_lt (by omega)]
  ·rw [B.getD_lt hp]
   congr 1
   omega
theorem Ql5 (xs:List α) {t:Nat} (h:2 * t+1<xs.length):((QkQ z xs t).set t ((QkQ z xs t).getD (xs.length-1-t) z)).set (xs.length-1-t) ((QkQ z xs t).getD t z)=QkQ z xs (t+1):=by
 rw [QdX z xs t (show xs.length-1-t<xs.length by omega),QdX z xs t (show t<xs.length by omega),if_neg (by omega),if_neg (by omega)]
 apply List.ext_getElem
 ·simp [QbZ]
 ·intro p h1 h2
  have hp:p<xs.length:=by simpa [QbZ] using h2
  rw [List.getElem_set,List.getElem_set, ←B.getD_lt (z:=z) h2,QdX z xs (t+1) hp, ←B.getD_lt (z:=z) (show p<(QkQ z xs t).length by rw [QbZ];exact hp),QdX z xs t hp]
  by_cases c1:xs.length-1-t=p
  ·rw [if_pos c1,if_pos (by omega)]
   congr 1
   omega
  ·rw [if_neg c1]
   by_cases c2:t=p
   ·rw [if_pos c2,if_pos (by omega)]
    congr 1
    omega
   ·rw [if_neg c2]
    by_cases c3:p<t∨xs.length≤p+t
    ·rw [if_pos c3,if_pos (by omega)]
    ·rw [if_neg c3,if_neg (by omega)]
theorem Qvf (xs:List α) (hl:xs.length≤4194304) (g:Nat→List α→Int→Int→Option (List α)) (h1:∀ k l i j,¬i<j→g (k+1) l i j=some l)
 (h2:∀ (k:Nat) (l:List α) (i j:Nat),i<j→j<l.length→g (k+1) l (i:Int) (j:Int)=g k ((l.set i (l.getD j z)).set j (l.getD i z)) (wrap64 ((i:Int)+1)) (wrap64 ((j:Int)-1))) :
 B.Ev (fun k=>g k xs 0 (wrap64 ((xs.length:Int)-1))) xs.reverse:=by
 have key:∀ n t:Nat,xs.length≤2 * (t+n)+1→B.Ev (fun k=>g k (QkQ z xs t) (t:Int) ((xs.length:Int)-1-(t:Int))) xs.reverse:=by
  intro n
  induction n with
  | zero =>
   intro t h
   refine B.Ev.succ ?_
   simp only [h1 _ _ _ _ (show ¬((t:Int)<(xs.length:Int)-1-(t:Int)) by omega)]
   exact (B.Ev.pure _).eq (QhT z xs (by omega))
  | succ n ih =>
   intro t h
   by_cases c:2 * t+1<xs.length
   ·refine B.Ev.succ ?_
    have e:(xs.length:Int)-1-(t:Int)=((xs.length-1-t:Nat):Int):=by omega
    have e2:wrap64 (((xs.length-1-t:Nat):Int)-1)=(xs.length:Int)-1-((t+1:Nat):Int):=by rw [B.wid (by omega) (by omega)];omega
    have ih:=ih (t+1) (by omega)
    rw [←Ql5 z xs c] at ih
    simp only [e,h2 _ (QkQ z xs t) t (xs.length-1-t) (by omega) (by rw [QbZ];omega),B.wsucc (show t<9223372036854775807 by omega),e2]
    exact ih
   ·refine B.Ev.succ ?_
    simp only [h1 _ _ _ _ (show ¬((t:Int)<(xs.length:Int)-1-(t:Int)) by omega)]
    exact (B.Ev.pure _).eq (QhT z xs (by omega))
 have h0:=key xs.length 0 (by omega)
 rw [Ql4] at h0
 rw [B.wid (by omega) (by omega)]
 simpa using h0
end
theorem QnA (xs:List Int) (hl:xs.length≤4194304):B.Ev (fun k=>Qw.f k xs) xs.reverse:=by
 refine Qvf (0:Int) xs hl (fun k l i j=>Qw.l0 k l i j) (fun k l i j h => ?_) (fun k l i j h h' => ?_)
 ·simp only [Qw.l0,h, ↓reduceIte]
 ·simp only [Qw.l0,show (i:Int)<(j:Int) by omega,show 0≤(j:Int) by omega,show (j:Int)<(l.length:Int) by omega,show 0≤(i:Int) by omega,show (i:Int)<(l.length:Int) by omega, ↓reduceIte,rd,Int.toNat_natCast]
end Go.Proofs.YtallpjhkmcgpoaaGreat.X
end
section
namespace Go.Proofs.YtallpjhkmcgpoaaGreat.P
open Go Go.RowKit Go.Proofs.YtallpjhkmcgpoaaGreat.V
end Go.Proofs.YtallpjhkmcgpoaaGreat.P
end
section
namespace Go.Proofs.YtallpjhkmcgpoaaGreat.X
open Go Go.RowKit Go.Proofs.YtallpjhkmcgpoaaGreat.V Go.Proofs.YtallpjhkmcgpoaaGreat.P
def QbJ (l:List S38) (i:Nat):Nat:=(Qo6 l i).toNat
theorem Qc6 {l:List S38} (h:okT l=true) {i:Nat} (hi:i<l.length) (h0:i≠0):Qo6 l i=(QbJ l i:Int)∧QbJ l i<i:=by
 have a:=QsT h hi h0
 have b:=(QfM l i).1
 unfold QbJ
 omega
theorem QfU {l:List S38} (h:okT l=true) {i:Nat} (hi:i<l.length) (h0:i≠0):i∈QbV l (QbJ l i):=by
 obtain ⟨e,hp⟩:=Qc6 h hi h0
 have s:=QfM l i
 rw [e] at s
 have s4:=s.2.2.2 (by omega)
 rw [Int.toNat_natCast] at s4
 have hu:=(QhI l (i:=QbJ l i) hi).2 ⟨hp,fun g g1 g2=>by
  rcases Nat.lt_or_ge g i with c|c
  ·have:=s.2.2.1 g (by omega) c
   omega
  ·obtain rfl:g=i:=by omega
   exact s4⟩
 have d1:=(Qcd h (show QbJ l i+1<l.length by omega)).2.2.2
 rw [show QbJ l i+1-1=QbJ l i by omega] at d1
 have d2:dep l i≤dep l (QbJ l i+1):=by
  rcases Nat.lt_or_ge (QbJ l i+1) i with c|c
  ·exact s.2.2.1 (QbJ l i+1) (by omega) c
  ·rw [show i=QbJ l i+1 by omega]
   rw [show QbJ l (QbJ l i+1)=QbJ l i by rw [←show i=QbJ l i+1 by omega]]
   omega
 unfold QbV QgE
 rw [List.mem_filter,List.mem_range'_1]
 refine ⟨by omega,decide_eq_true ?_⟩
 omega
def QoY (l:List S38) (i:Nat):Int:=B.idxFrom (fun y=>decide (y=(i:Int))) ((QbV l (QbJ l i)).map fun (j:Nat)=>(j:Int)) 0
theorem QsR {l:List S38} (h:okT l=true) {i:Nat} (hi:i<l.length) (h0:i≠0):QoY l i≥0:=by
 have:=B.idxFrom_any (fun y=>decide (y=(i:Int))) ((QbV l (QbJ l i)).map fun (j:Nat)=>(j:Int)) 0
 unfold QoY
 refine of_decide_eq_true ?_
 rw [this,List.any_eq_true]
 exact ⟨(i:Int),List.mem_map.2 ⟨i,QfU h hi h0,rfl⟩,by simp⟩
theorem Qtq {l:List S38} (h:okT l=true) {i:Nat} (hi:i<l.length) (h0:i≠0):B.Ev (fun k=>Qa4.f k l (i:Int)) (QoY l i):=by
 have hl:=(QaT h).2
 simp only [Qa4.f]
 refine B.Ev.bind (QnB h hi) ?_
 obtain ⟨e,hp⟩:=Qc6 h hi h0
 rw [e]
 refine B.Ev.bind (Qf3 h (by omega)) ?_
 refine B.Ev.bind (a:=QoY l i) ?_ (B.Ev.pure _)
 unfold QoY
 generalize hxs:((QbV l (QbJ l i)).map fun (j:Nat)=>(j:Int))=xs
 have hlen:xs.length≤24:=by
  rw [←hxs,List.length_map]
  have:=Qfv l (QbJ l i) (QbJ l i+1) (Qbi l (QbJ l i))
  have:=Qbo l (show QbJ l i<l.length by omega)
  unfold QbV
  omega
 simp only [Qq.f]
 have key:∀ n p:Nat,p+n=xs.length→B.Ev (fun k=>Qq.l0 k xs (i:Int) (xs.length:Int) (p:Int)) (B.idxFrom (fun y=>decide (y=(i:Int))) (xs.drop p) p):=by
  intro n
  induction n with
  | zero =>
   intro p hp
   refine B.Ev.succ ?_
   simp only [Qq.l0,show ¬((p:Int)<(xs.length:Int)) by omega, ↓reduceIte]
   exact (B.Ev.pure _).eq (by rw [List.drop_eq_nil_of_le (by omega)];rfl)
  | succ n ih =>
   intro p hp
   have hlt:p<xs.length:=by omega
   refine B.Ev.succ ?_
   rw [B.idxFrom_drop _ _ hlt]
   simp only [Qq.l0,show (p:Int)<(xs.length:Int) by omega,show 0≤(p:Int) by omega, ↓reduceIte,rd,Int.toNat_natCast,B.getD_lt hlt,B.wsucc (show p<9223372036854775807 by omega),decide_eq_true_eq]
   by_cases c:xs[p]=(i:Int)
   ·simp only [c, ↓reduceIte]
    exact B.Ev.pure _
   ·simp only [c,show ¬(i:Int)=xs[p] from fun q=>c q.symm, ↓reduceIte]
    exact ih (p+1) (by omega)
 have:=key xs.length 0 (by omega)
 rw [List.drop_zero] at this
 exact this
def QkU (l:List S38):Nat→Nat→List Int
 | 0,_=>[]
 | n+1,i=>if i=0 then [] else QkU l n (QbJ l i)++[QoY l i]
def QcN (l:List S38) (i:Nat):List Int:=QkU l i i
theorem Qo4 {l:List S38} (h:okT l=true):∀ n i,i<l.length→i≤n→QkU l n i=QcN l i:=by
 intro n
 induction n using Nat.strongRecOn with
 | _ n ih =>
  intro i hi hn
  unfold QcN
  cases n with
  | zero=>obtain rfl:i=0:=by omega
          rfl
  | succ n =>
   cases i with
   | zero=>simp [QkU]
   | succ i =>
    have hp:=(Qc6 h hi (by omega)).2
    simp only [QkU,show ¬(i+1=0) by omega, ↓reduceIte]
    rw [ih n (by omega) _ (by omega) (by omega)]
    rcases Nat.lt_or_ge i n with c|c
    ·rw [ih i (by omega) _ (by omega) (by omega)]
    ·obtain rfl:i=n:=by omega
     rw [ih i (by omega) _ (by omega) (by omega)]
theorem QeX {l:List S38} (h:okT l=true) {i:Nat} (hi:i<l.length) (h0:i≠0):QcN l i=QcN l (QbJ l i)++[QoY l i]:=by
 have hp:=(Qc6 h hi h0).2
 obtain ⟨m,rfl⟩:∃ m,i=m+1:=⟨i-1,by omega⟩
 conv=>lhs;unfold QcN
 simp only [QkU,show ¬(m+1=0) by omega, ↓reduceIte]
 rw [Qo4 h m _ (by omega) (by omega)]
theorem Qi6 {l:List S38} (h:okT l=true) {i:Nat} (hi:i<l.length):B.Ev (fun k=>Q3.f k l (i:Int)) (QcN l i):=by
 have hl:=(QaT h).2
 simp only [Q3.f]
 have key:∀ i,i<l.length→∀ acc:List Int,acc.length+i≤1000→B.Ev (fun k=>Q3.l0 k l (i:Int) acc) (QcN l i++acc.reverse):=by
  intro i
  induction i using Nat.strongRecOn with
  | _ i ih =>
   intro hi acc ha
   refine B.Ev.succ ?_
   simp only [Q3.l0]
   refine B.Ev.bind (Qi7 l (by omega) _) ?_
   rw [Qc8 h hi]
   simp only [↓reduceIte]
   by_cases h0:i=0
   ·subst h0
    simp only [show ¬(((0:Nat):Int) > 0) by decide, ↓reduceIte]
    refine B.Ev.bind (QnA acc (by omega)) ?_
    simp only [List.length_reverse, ↓reduceIte]
    exact B.Ev.pure _
   ·obtain ⟨e,hp⟩:=Qc6 h hi h0
    simp only [show (i:Int) > 0 by omega, ↓reduceIte]
    refine B.Ev.bind (Qtq h hi h0) ?_
    simp only [show acc.length<17592186044416 by omega, ↓reduceIte]
    refine B.Ev.bind (QnB h hi) ?_
    rw [e]
    refine (ih _ hp (by omega) _ (by simp;omega)).eq ?_
    rw [QeX h hi h0,List.reverse_append]
    simp
 have:=key i hi [] (by simp;omega)
 rw [List.reverse_nil,List.append_nil] at this
 exact this
end Go.Proofs.YtallpjhkmcgpoaaGreat.X
end
section
namespace Go.Proofs.YtallpjhkmcgpoaaGreat.B
open Go Go.RowKit Go.Proofs.YtallpjhkmcgpoaaGreat.V Go.Proofs.YtallpjhkmcgpoaaGreat.P
def EvR {α β:Type} (g:Nat→Option α) (h:Nat→Option β) (R:α→β→Prop):Prop:=∃ u v,R u v∧Ev g u∧Ev h v
theorem EvR.of {α β:Type} {g:Nat→Option α} {h:Nat→Option β} {R:α→β→Prop} {u:α} {v:β} (r:R u v) (hg:Ev g u) (hh:Ev h v):EvR g h R:=⟨u,v,r,hg,hh⟩
theorem EvR.pure {α β:Type} {R:α→β→Prop} {u:α} {v:β} (r:R u v):EvR (fun _=>some u) (fun _=>some v) R:=⟨u,v,r,Ev.pure u,Ev.pure v⟩
theorem EvR.mono {α β:Type} {g:Nat→Option α} {h:Nat→Option β} {R S:α→β→Prop} (e:EvR g h R) (q:∀ u v,R u v→S u v):EvR g h S:=by
 obtain ⟨u,v,r,e⟩:=e;exact ⟨u,v,q u v r,e⟩
theorem EvR.bind {α β γ δ:Type} {f:Nat→Option α} {f':Nat→Option β} {g:Nat→α→Option γ} {g':Nat→β→Option δ} {R:α→β→Prop} {S:γ→δ→Prop} (hf:EvR f f' R)
 (hg:∀ u v,R u v→EvR (fun k=>g k u) (fun k=>g' k v) S):EvR (fun k=>(f k).bind (g k)) (fun k=>(f' k).bind (g' k)) S:=by
 obtain ⟨u,v,r,h1,h2⟩:=hf
 obtain ⟨x,y,s,h3,h4⟩:=hg u v r
 exact ⟨x,y,s,h1.bind h3,h2.bind h4⟩
theorem EvR.bindL {α γ δ:Type} {f:Nat→Option α} {g:Nat→α→Option γ} {h:Nat→Option δ} {a:α} {S:γ→δ→Prop} (hf:Ev f a) (hg:EvR (fun k=>g k a) h S):EvR (fun k=>(f k).bind (g k)) h S:=by
 obtain ⟨x,y,s,h3,h4⟩:=hg
 exact ⟨x,y,s,hf.bind h3,h4⟩
theorem EvR.bindR {α γ δ:Type} {f:Nat→Option α} {g:Nat→α→Option δ} {h:Nat→Option γ} {a:α} {S:γ→δ→Prop} (hf:Ev f a) (hg:EvR h (fun k=>g k a) S):EvR h (fun k=>(f k).bind (g k)) S:=by
 obtain ⟨x,y,s,h3,h4⟩:=hg
 exact ⟨x,y,s,h3,hf.bind h4⟩
theorem EvR.same {α:Type} {g h:Nat→Option α} (e:EvR g h (fun u v=>u=v)):∃ v,Ev g v∧Ev h v:=by
 obtain ⟨u,v,rfl,h1,h2⟩:=e;exact ⟨u,h1,h2⟩
end Go.Proofs.YtallpjhkmcgpoaaGreat.B
end
section
namespace Go.Proofs.YtallpjhkmcgpoaaGreat.P
open Go Go.RowKit Go.Proofs.YtallpjhkmcgpoaaGreat.V
def Qbz.l0:Nat→(List S38)→(List Int)→Int→Int→Option Int
 | 0,_,_,_,_=>none
 | k+1,l0,l1,x5,x6=>if x6<(l1.length:Int) then ((Qbv.f k l0 x5).bind fun t2=>(if 0≤x6 then ((Qaw.f (rd l1 x6) 0 (wrap64 ((t2.length:Int)-1))).bind fun t3=>(if t3=true then (if 0≤rd l1 x6 then (if rd l1 x6<(t2.length:Int) then (Qbz.l0 k l0 l1 (rd t2 (rd l1 x6)) (wrap64 (x6+1))) else none) else none) else (some (-1)))) else none)) else (some x5)
def Qbz.f (k:Nat) (l0:List S38) (l1:List Int):Option Int:=(QG.f k l0).bind fun t1=>(if t1=true then (Qbz.l0 k l0 l1 0 0) else (some (-1)))
end Go.Proofs.YtallpjhkmcgpoaaGreat.P
end
section
namespace Go.Proofs.YtallpjhkmcgpoaaGreat.X
open Go Go.RowKit Go.Proofs.YtallpjhkmcgpoaaGreat.V Go.Proofs.YtallpjhkmcgpoaaGreat.P
theorem Qdz (l:List S38) {i:Nat} (hi:i<l.length) {j:Nat} (h:j∈QbV l i):i<j∧j<Qbi l i∧j<l.length:=by
 have a:=Qbo l hi
 unfold QbV QgE at h
 rw [List.mem_filter,List.mem_range'_1] at h
 omega
theorem Qdy (l:List S38) {i:Nat} (hi:i<l.length):(QbV l i).length≤l.length:=by
 have:=Qfv l i (i+1) (Qbi l i)
 have:=Qbo l hi
 unfold QbV;omega
theorem QfL {K:List Nat} {p:Int} (h0:0≤p) (h1:p<(K.length:Int)):rd (K.map fun (j:Nat)=>(j:Int)) p=((K.getD p.toNat 0:Nat):Int):=by
 unfold rd
 have:p.toNat<K.length:=by omega
 rw [List.getD_eq_getElem?_getD,List.getElem?_map,List.getElem?_eq_getElem this,List.getD_eq_getElem?_getD,List.getElem?_eq_getElem this]
 rfl
theorem Qbt {K:List Nat} {p:Nat} (h:p<K.length):K.getD p 0∈K:=by
 rw [List.getD_eq_getElem?_getD,List.getElem?_eq_getElem h];exact List.getElem_mem h
def QdJ (l:List S38):Nat→List Int→Int
 | i,[]=>(i:Int)
 | i,p::ps=>if 0≤p∧p<((QbV l i).length:Int) then QdJ l ((QbV l i).getD p.toNat 0) ps else -1
theorem QjI (l:List S38):∀ (ps:List Int) (i:Nat),i<l.length→QdJ l i ps = -1∨∃ j:Nat,QdJ l i ps=(j:Int)∧j<l.length
 | [],i,h => .inr ⟨i,rfl,h⟩
 | p::ps,i,h=>by
  simp only [QdJ]
  split
  ·rename_i c
   exact QjI l ps _ (Qdz l h (Qbt (by omega))).2.2
  ·exact .inl rfl
def QbO (l:List S38) (ps:List Int):Int:=if okT l=true then QdJ l 0 ps else -1
theorem Qpc {l:List S38} (h:okT l=true) (ps:List Int) (hp:ps.length≤4611686018427387904):∀ (d t i:Nat),t+d=ps.length→i<l.length →
 B.Ev (fun k=>Qbz.l0 k l ps (i:Int) (t:Int)) (QdJ l i (ps.drop t))∧B.Ev (fun k=>QY.l0 k l (i:Int) ps (ps.length:Int) (t:Int)) (QdJ l i (ps.drop t)):=by
 intro d
 have hl:=QaT h
 induction d with
 | zero =>
  intro t i ht hi
  rw [List.drop_eq_nil_of_le (by omega)]
  refine ⟨B.Ev.succ ?_,B.Ev.succ ?_⟩
  ·simp only [Qbz.l0,show ¬((t:Int)<(ps.length:Int)) by omega, ↓reduceIte]
   exact B.Ev.pure _
  ·simp only [QY.l0,show ¬((t:Int)<(ps.length:Int)) by omega, ↓reduceIte]
   exact B.Ev.pure _
 | succ d ih =>
  intro t i ht hi
  have hlt:t<ps.length:=by omega
  have hk:=Qdy l hi
  have a1:(t:Int)<(ps.length:Int):=by omega
  have a2:0≤(t:Int):=by omega
  have hw:=B.wsucc (show t<9223372036854775807 by omega)
  have hkl:((QbV l i).map fun (j:Nat)=>(j:Int)).length=(QbV l i).length:=List.length_map _
  have e1:wrap64 (((QbV l i).length:Int)-1)=((QbV l i).length:Int)-1:=B.wid (by omega) (by omega)
  have er:rd ps (t:Int)=ps[t]:=by unfold rd;rw [Int.toNat_natCast];exact B.getD_lt hlt
  have hd:ps.drop t=ps[t]::ps.drop (t+1):=List.drop_eq_getElem_cons hlt
  rw [hd]
  generalize ps[t]=p at *
  by_cases c:0≤p∧p<((QbV l i).length:Int)
  ·have hkid:=Qdz l hi (Qbt (K:=QbV l i) (p:=p.toNat) (by omega))
   have ih:=ih (t+1) ((QbV l i).getD p.toNat 0) (by omega) hkid.2.2
   have er2:=QfL (K:=QbV l i) c.1 c.2
   have c':(0≤p∧p≤((QbV l i).length:Int)-1):=by omega
   refine ⟨B.Ev.succ ?_,B.Ev.succ ?_⟩
   ·simp only [Qbz.l0,a1, ↓reduceIte]
    refine B.Ev.bind (QnI h hi) ?_
    simp only [a2, ↓reduceIte,hkl,e1,er,Qos,Option.bind_some,decide_eq_true_eq,c',c,and_self,er2,hw,QdJ]
    exact ih.1
   ·simp only [QY.l0,a1,a2, ↓reduceIte]
    refine B.Ev.bind (Qf3 h hi) ?_
    simp only [a2, ↓reduceIte,hkl,e1,er,Qd3,Option.bind_some,decide_eq_true_eq,c',c,and_self,er2,hw,QdJ]
    exact ih.2
  ·have c':¬(0≤p∧p≤((QbV l i).length:Int)-1):=by omega
   refine ⟨B.Ev.succ ?_,B.Ev.succ ?_⟩
   ·simp only [Qbz.l0,a1, ↓reduceIte]
    refine B.Ev.bind (QnI h hi) ?_
    simp only [a2, ↓reduceIte,hkl,e1,er,Qos,Option.bind_some,decide_eq_true_eq,c',c,QdJ]
    exact B.Ev.pure _
   ·simp only [QY.l0,a1,a2, ↓reduceIte]
    refine B.Ev.bind (Qf3 h hi) ?_
    simp only [a2, ↓reduceIte,hkl,e1,er,Qd3,Option.bind_some,decide_eq_true_eq,c',c,QdJ]
    exact B.Ev.pure _
theorem Qkj (l:List S38) (hl:l.length≤4194304) (ps:List Int) (hp:ps.length≤4611686018427387904):B.Ev (fun k=>Qbz.f k l ps) (QbO l ps)∧B.Ev (fun k=>QY.f k l ps) (QbO l ps):=by
 unfold QbO
 by_cases h:okT l=true
 ·have:=Qpc h ps hp ps.length 0 0 (by omega) (by have:=QaT h;omega)
  rw [List.drop_zero] at this
  constructor
  ·simp only [Qbz.f,h, ↓reduceIte]
   refine B.Ev.bind (B.Ev.of _ (fun k hk=>Qcl l hl k hk)) ?_
   simp only [h, ↓reduceIte]
   exact this.1
  ·simp only [QY.f,h, ↓reduceIte]
   refine B.Ev.bind (B.Ev.of _ (fun k hk=>Qb7 l hl k hk)) ?_
   simp only [h, ↓reduceIte]
   exact this.2
 ·constructor
  ·simp only [Qbz.f,h, ↓reduceIte]
   refine B.Ev.bind (B.Ev.of _ (fun k hk=>Qcl l hl k hk)) ?_
   simp only [h, ↓reduceIte]
   exact B.Ev.pure _
  ·simp only [QY.f,h, ↓reduceIte]
   refine B.Ev.bind (B.Ev.of _ (fun k hk=>Qb7 l hl k hk)) ?_
   simp only [h, ↓reduceIte]
   exact B.Ev.pure _
end Go.Proofs.YtallpjhkmcgpoaaGreat.X
end
section
namespace Go.Proofs.YtallpjhkmcgpoaaGreat.P
open Go Go.RowKit Go.Proofs.YtallpjhkmcgpoaaGreat.V
def Qbm.l0:Nat→(List S38)→Int→Int→Int→Int→(List Int)→Option (Int×Int×Int)
 | 0,_,_,_,_,_,_=>none
 | k+1,l0,x10,x11,x12,x13,l1_1=>if x13<x11 then (if 0≤x13 then (if x13<(l0.length:Int) then (Qbm.l0 k l0 x10 x11 (mx x12 (wrap64 (((Qac l0 x13).f1)+1))) (wrap64 (x13+1)) l1_1) else none) else none) else (if x12 > 12 then (some (7,0,0)) else (some (0,x10,x11)))
def Qbm.f (k:Nat) (l0:List S38) (a1_0:Int) (l1_1:List Int) (a1_2:Int) (a1_3:Int) (a1_4:Int) (a2:Int):Option (Int×Int×Int):=(Qaw.f a1_0 1 3).bind fun t1=>(if t1=true then (if a2<0 then (some (2,0,0)) else (if a1_0=2 then (if a2=0 then (some (4,0,0)) else (if a1_0=3 then ((Qbv.f k l0 a2).bind fun t2=>((Qaw.f a1_3 0 (t2.length:Int)).bind fun t3=>(if t3=true then ((Qaw.f a1_4 0 (wrap64 ((t2.length:Int)-a1_3))).bind fun t4=>(if t4=true then ((Q2.f k l0 a2).bind fun t5=>(if t2.length<17592186044416 then ((some (t2++([t5]):List Int)).bind fun y0=>(if 0≤a1_3 then (if a1_3<(y0.length:Int) then (if 0≤wrap64 (a1_3+a1_4) then (if wrap64 (a1_3+a1_4)<(y0.length:Int) then (if (l0.length:Int)=24 then (some (6,0,0)) else (if 0≤a2 then (if a2<(l0.length:Int) then (Qbm.l0 k l0 (rd y0 a1_3) (rd y0 (wrap64 (a1_3+a1_4))) (wrap64 (((Qac l0 a2).f1)+1)) (rd y0 a1_3) l1_1) else none) else none)) else none) else none) else none) else none)) else none)) else (some (5,0,0)))) else (some (5,0,0))))) else (some (0,0,0)))) else ((QaI.f a1_2).bind fun t6=>(if t6=true then (if a1_0=3 then ((Qbv.f k l0 a2).bind fun t7=>((Qaw.f a1_3 0 (t7.length:Int)).bind fun t8=>(if t8=true then ((Qaw.f a1_4 0 (wrap64 ((t7.length:Int)-a1_3))).bind fun t9=>(if t9=true then ((Q2.f k l0 a2).bind fun t10=>(if t7.length<17592186044416 then ((some (t7++([t10]):List Int)).bind fun y1=>(if 0≤a1_3 then (if a1_3<(y1.length:Int) then (if 0≤wrap64 (a1_3+a1_4) then (if wrap64 (a1_3+a1_4)<(y1.length:Int) then (if (l0.length:Int)=24 then (some (6,0,0)) else (if 0≤a2 then (if a2<(l0.length:Int) then (Qbm.l0 k l0 (rd y1 a1_3) (rd y1 (wrap64 (a1_3+a1_4))) (wrap64 (((Qac l0 a2).f1)+1)) (rd y1 a1_3) l1_1) else none) else none)) else none) else none) else none) else none)) else none)) else (some (5,0,0)))) else (some (5,0,0))))) else (some (0,0,0))) else (some (3,0,0)))))) else (some (1,0,0)))
end Go.Proofs.YtallpjhkmcgpoaaGreat.P
end
section
namespace Go.Proofs.YtallpjhkmcgpoaaGreat.X
open Go Go.RowKit Go.Proofs.YtallpjhkmcgpoaaGreat.V Go.Proofs.YtallpjhkmcgpoaaGreat.P
theorem QiY (l:List S38) (i:Nat):(QbV l i).Pairwise (· < ·):=by
 unfold QbV QgE
 exact List.Pairwise.filter _ (List.pairwise_lt_range' 1 (by decide))
def QbY (l:List S38) (i:Nat):List Nat:=QbV l i++[Qbi l i]
theorem Qfe (l:List S38) {i:Nat} (hi:i<l.length):(QbY l i).Pairwise (· < ·):=by
 unfold QbY
 rw [List.pairwise_append]
 refine ⟨QiY l i,by simp,fun a ha b hb => ?_⟩
 rw [List.mem_singleton] at hb
 have:=Qdz l hi ha
 omega
theorem Qjo (l:List S38) {i:Nat} (hi:i<l.length) {p:Nat} (h:p<(QbY l i).length):i<(QbY l i).getD p 0∧(QbY l i).getD p 0≤l.length:=by
 have hm:(QbY l i).getD p 0∈QbY l i:=Qbt h
 have a:=Qbo l hi
 unfold QbY at hm ⊢
 rw [List.mem_append,List.mem_singleton] at hm
 rcases hm with h|h
 ·have:=Qdz l hi h;omega
 ·omega
theorem QoM (l:List S38) {i:Nat} (hi:i<l.length) {p q:Nat} (h:p≤q) (hq:q<(QbY l i).length):(QbY l i).getD p 0≤(QbY l i).getD q 0:=by
 rcases Nat.lt_or_ge p q with c|c
 ·have:=List.pairwise_iff_getElem.1 (Qfe l hi) p q (by omega) hq c
  rw [B.getD_lt (by omega),B.getD_lt hq];omega
 ·obtain rfl:p=q:=by omega
  exact Nat.le_refl _
def Qe4 (l:List S38):Nat→Nat→Int→Int
 | 0,_,d=>d
 | n+1,j,d=>Qe4 l n (j+1) (mx d (dep l j+1))
def Qot (l:List S38) (a b:Nat) (d:Int):Int×Int×Int:=if l.length=24 then (6,0,0) else if d > 12 then (7,0,0) else (0,(a:Int),(b:Int))
theorem Qy5 {l:List S38} (h:okT l=true) {a b:Nat} (hb:b≤l.length) (path:List Int) (h24:l.length≠24):∀ (n j:Nat) (d:Int),j+n=b→B.Ev (fun k=>Qbm.l0 k l (a:Int) (b:Int) d (j:Int) path) (Qot l a b (Qe4 l n j d)):=by
 intro n
 induction n with
 | zero =>
  intro j d hj
  refine B.Ev.succ ?_
  simp only [Qbm.l0,show ¬((j:Int)<(b:Int)) by omega, ↓reduceIte,Qe4,Qot,h24]
  refine B.Ev.ite (fun c => ?_) (fun c => ?_)
  ·simp only [c, ↓reduceIte];exact B.Ev.pure _
  ·simp only [c, ↓reduceIte];exact B.Ev.pure _
 | succ n ih =>
  intro j d hj
  have hp:=Qcd h (show j<l.length by omega)
  have hw:=B.wsucc (show j<9223372036854775807 by have:=QaT h;omega)
  have e1:wrap64 ((l.getD j z38).f1+1)=dep l j+1:=B.wid (show -9223372036854775808≤dep l j+1 by omega) (show dep l j+1≤9223372036854775807 by omega)
  refine B.Ev.succ ?_
  simp only [Qbm.l0,show ((j:Int)<(b:Int)) by omega,show (0:Int)≤(j:Int) by omega,show (j:Int)<(l.length:Int) by omega, ↓reduceIte,QbI,e1,hw,Qe4]
  exact ih (j+1) _ (by omega)
theorem Qy6 {l:List S38} (h:okT l=true) {a b:Nat} (hab:a≤b) (hb:b≤l.length) (path:List Int):∀ (n t:Nat) (d:Int),t+n=b-a→B.Ev (fun k=>QA.l0 k l (a:Int) (b:Int) d ((l.take b).drop a) ((((l.take b).drop a).length:Nat):Int) (t:Int) path) (Qot l a b (Qe4 l n (a+t) d)):=by
 have hlen:((l.take b).drop a).length=b-a:=by rw [List.length_drop,List.length_take];omega
 rw [hlen]
 intro n
 induction n with
 | zero =>
  intro t d ht
  refine B.Ev.succ ?_
  simp only [QA.l0,show ¬((t:Int)<((b-a:Nat):Int)) by omega, ↓reduceIte,Qe4,Qot]
  by_cases c24:l.length=24
  ·simp only [c24, ↓reduceIte,show (((24:Nat):Int)=24) from rfl];exact B.Ev.pure _
  ·simp only [c24, ↓reduceIte,show ¬((l.length:Int)=24) by omega]
   refine B.Ev.ite (fun c => ?_) (fun c => ?_)
   ·simp only [c, ↓reduceIte];exact B.Ev.pure _
   ·simp only [c, ↓reduceIte];exact B.Ev.pure _
 | succ n ih =>
  intro t d ht
  have hp:=Qcd h (show a+t<l.length by omega)
  have hw:=B.wsucc (show t<9223372036854775807 by have:=QaT h;omega)
  have e0:((l.take b).drop a).getD t z38=l.getD (a+t) z38:=by
   rw [List.getD_eq_getElem?_getD,List.getD_eq_getElem?_getD,List.getElem?_drop,List.getElem?_take_of_lt (by omega)]
  have e1:wrap64 ((l.getD (a+t) z38).f1+1)=dep l (a+t)+1:=B.wid (show -9223372036854775808≤dep l (a+t)+1 by omega) (show dep l (a+t)+1≤9223372036854775807 by omega)
  refine B.Ev.succ ?_
  simp only [QA.l0,show ((t:Int)<((b-a:Nat):Int)) by omega,show (0:Int)≤(t:Int) by omega,hlen, ↓reduceIte,QbI,e0,e1,hw,Qe4]
  exact ih (t+1) _ (by omega)
def QcB (l:List S38) (kind label from_ count i:Int):Int×Int×Int :=
 if 1≤kind∧kind≤3 then
  (if i<0 then (2,0,0) else if kind=2 then (if i=0 then (4,0,0) else (0,0,0))
   else if 0≤label∧label≤5 then
    (if kind=3 then
     (if 0≤from_∧from_≤((QbV l i.toNat).length:Int) then
      (if 0≤count∧count≤((QbV l i.toNat).length:Int)-from_ then
       Qot l ((QbY l i.toNat).getD from_.toNat 0) ((QbY l i.toNat).getD (from_+count).toNat 0) (Qe4 l ((QbY l i.toNat).getD (from_+count).toNat 0-(QbY l i.toNat).getD from_.toNat 0) ((QbY l i.toNat).getD from_.toNat 0) (dep l i.toNat+1))
      else (5,0,0)) else (5,0,0)) else (0,0,0))
   else (3,0,0))
 else (1,0,0)
def Qoq (l:List S38) (kind i:Int) (u:Int×Int×Int):Prop:=u.1=0→0≤i∧(kind=1∨(kind=2∧i≠0)∨(kind=3∧l.length<24∧∃ a b:Nat,u.2=((a:Int),(b:Int))∧i<(a:Int)∧a≤b∧b≤l.length))
theorem QyW {l:List S38} (h:okT l=true) {i:Nat} (hi:i<l.length) (path:List Int) {from_ count:Int} (h1:0≤from_) (h2:from_≤((QbV l i).length:Int)) (h3:0≤count) (h4:count≤((QbV l i).length:Int)-from_) :
 let y:=(QbV l i).map (fun (j:Nat)=>(j:Int))++[(Qbi l i:Int)]
 B.EvR (fun k=>if 0≤from_ then (if from_<(y.length:Int) then (if 0≤wrap64 (from_+count) then (if wrap64 (from_+count)<(y.length:Int) then (if (l.length:Int)=24 then (some ((6:Int),(0:Int),(0:Int))) else (if 0≤(i:Int) then (if (i:Int)<(l.length:Int) then (Qbm.l0 k l (rd y from_) (rd y (wrap64 (from_+count))) (wrap64 (((Qac l (i:Int)).f1)+1)) (rd y from_) path) else none) else none)) else none) else none) else none) else none)
  (fun k=>if 0≤from_ then (if from_<(y.length:Int) then (if 0≤wrap64 (from_+count) then (if wrap64 (from_+count)<(y.length:Int) then (if 0≤(i:Int) then (if (i:Int)<(l.length:Int) then (if rd y (wrap64 (from_+count))≤(l.length:Int) then (if 0≤rd y from_ then (if rd y from_≤rd y (wrap64 (from_+count)) then ((some ((l.take (rd y (wrap64 (from_+count)):Int).toNat).drop (rd y from_:Int).toNat:List S38)).bind fun y1=>(QA.l0 k l (rd y from_) (rd y (wrap64 (from_+count))) (wrap64 (((Qac l (i:Int)).f1)+1)) y1 (y1.length:Int) 0 path)) else none) else none) else none) else none) else none) else none) else none) else none) else none)
  (fun u v=>u=v∧Qoq l 3 (i:Int) u∧u=Qot l ((QbY l i).getD from_.toNat 0) ((QbY l i).getD (from_+count).toNat 0) (Qe4 l ((QbY l i).getD (from_+count).toNat 0-(QbY l i).getD from_.toNat 0) ((QbY l i).getD from_.toNat 0) (dep l i+1))):=by
 intro y
 have hl:=QaT h
 have hk:=Qdy l hi
 have ey:y=(QbY l i).map (fun (j:Nat)=>(j:Int)):=by simp only [y,QbY,List.map_append,List.map_cons,List.map_nil]
 have hsl:(QbY l i).length=(QbV l i).length+1:=by unfold QbY;simp
 have hyl:(y.length:Int)=((QbV l i).length:Int)+1:=by rw [ey,List.length_map,hsl];omega
 obtain ⟨f,rfl⟩:∃ f:Nat,from_=f:=⟨from_.toNat,by omega⟩
 obtain ⟨c,rfl⟩:∃ c:Nat,count=c:=⟨count.toNat,by omega⟩
 have ew:wrap64 ((f:Int)+(c:Int))=((f+c:Nat):Int):=by rw [B.wid (by omega) (by omega)];omega
 have r1:rd y (f:Int)=(((QbY l i).getD f 0:Nat):Int):=by
  have:=QfL (K:=QbY l i) (p:=(f:Int)) (by omega) (by omega)
  rw [←ey] at this;rw [this,Int.toNat_natCast]
 have r2:rd y ((f+c:Nat):Int)=(((QbY l i).getD (f+c) 0:Nat):Int):=by
  have:=QfL (K:=QbY l i) (p:=((f+c:Nat):Int)) (by omega) (by omega)
  rw [←ey] at this;rw [this,Int.toNat_natCast]
 have s1:=Qjo l hi (p:=f) (by omega)
 have s2:=Qjo l hi (p:=f+c) (by omega)
 have s3:=QoM l hi (p:=f) (q:=f+c) (by omega) (by omega)
 have hp:=Qcd h hi
 have ed:wrap64 ((l.getD i z38).f1+1)=dep l i+1:=B.wid (show -9223372036854775808≤dep l i+1 by omega) (show dep l i+1≤9223372036854775807 by omega)
 have b1:(f:Int)<((QbV l i).length:Int)+1:=by omega
 have b2:((f+c:Nat):Int)<((QbV l i).length:Int)+1:=by omega
 have ec:((f:Int)+(c:Int)).toNat=f+c:=by omega
 clear_value y
 simp only [hyl,ew,ec,r1,r2,QbI,ed,Int.toNat_natCast,Option.bind_some,b1,b2,show (0:Int)≤(f:Int) by omega,show (0:Int)≤((f+c:Nat):Int) by omega,show (0:Int)≤(i:Int) by omega,show (i:Int)<(l.length:Int) by omega, ↓reduceIte]
 generalize ha:(QbY l i).getD f 0=a at *
 generalize hb:(QbY l i).getD (f+c) 0=b at *
 simp only [show (b:Int)≤(l.length:Int) by omega,show (0:Int)≤(a:Int) by omega,show (a:Int)≤(b:Int) by omega, ↓reduceIte]
 have gi:=Qy6 h s3 s2.2 path (b-a) 0 (dep l i+1) (by omega)
 rw [Nat.add_zero,show ((0:Nat):Int)=0 from rfl] at gi
 have hP:Qoq l 3 (i:Int) (Qot l a b (Qe4 l (b-a) a (dep l i+1))):=by
  unfold Qoq Qot
  split
  ·intro h;cases h
  ·split
   ·intro h;cases h
   ·intro _;exact ⟨by omega, .inr (.inr ⟨rfl,by omega,a,b,rfl,by omega,s3,s2.2⟩)⟩
 refine B.EvR.of ⟨rfl,hP,rfl⟩ ?_ gi
 by_cases c24:l.length=24
 ·simp only [show ((l.length:Int)=24) by omega, ↓reduceIte,Qot,c24]
  exact B.Ev.pure _
 ·simp only [show ¬((l.length:Int)=24) by omega, ↓reduceIte]
  exact Qy5 h s2.2 path c24 (b-a) a _ (by omega)
theorem QrD {l:List S38} (h:okT l=true) (kind label from_ count:Int) (path:List Int) {i:Int} (hi:i = -1∨∃ n:Nat,i=(n:Int)∧n<l.length) (hf : -9223372036854775808≤from_∧from_≤9223372036854775807) :
 B.EvR (fun k=>Qbm.f k l kind path label from_ count i) (fun k=>QA.f k l kind path label from_ count i) (fun u v=>u=v∧Qoq l kind i u∧u=QcB l kind label from_ count i):=by
 have no:∀ {c:Int}, c≠0→QcB l kind label from_ count i=(c,0,0)→B.EvR (fun _=>some (c,(0:Int),(0:Int))) (fun _=>some (c,(0:Int),(0:Int))) (fun u v=>u=v∧Qoq l kind i u∧u=QcB l kind label from_ count i):=fun {c} hc he=>B.EvR.pure ⟨rfl,fun h=>absurd h hc,he.symm⟩
 simp only [Qbm.f,QA.f,Qos,Qd3,Option.bind_some,decide_eq_true_eq,Qec,QcW]
 by_cases c1:1≤kind∧kind≤3
 ·simp only [c1,and_self, ↓reduceIte]
  by_cases c2:i<0
  ·simp only [c2, ↓reduceIte];exact no (by decide) (by simp only [QcB,c1,c2,and_self, ↓reduceIte])
  ·obtain ⟨n,rfl,hn⟩:∃ n:Nat,i=(n:Int)∧n<l.length:=by
    rcases hi with h|h
    ·omega
    ·exact h
   simp only [c2, ↓reduceIte]
   by_cases k2:kind=2
   ·simp only [k2, ↓reduceIte,show ¬((2:Int)=3) by decide]
    by_cases c3:(n:Int)=0
    ·simp only [c3, ↓reduceIte];subst k2;rw [c3] at no;exact no (by decide) (by simp [QcB])
    ·simp only [c3, ↓reduceIte]
     exact B.EvR.pure ⟨rfl,fun _=>⟨by omega, .inr (.inl ⟨rfl,c3⟩)⟩,by simp only [QcB,c2,c3, ↓reduceIte,show ((1:Int)≤2∧(2:Int)≤3) by decide,and_self]⟩
   ·simp only [k2, ↓reduceIte]
    by_cases c4:0≤label∧label≤5
    ·simp only [c4,and_self, ↓reduceIte]
     by_cases k3:kind=3
     ·have hk:=Qdy l hn
      have hl:=QaT h
      have hkl:((QbV l n).map fun (j:Nat)=>(j:Int)).length=(QbV l n).length:=List.length_map _
      subst k3
      simp only [↓reduceIte]
      refine B.EvR.bindL (QnI h hn) ?_
      refine B.EvR.bindR (Qf3 h hn) ?_
      simp only [hkl]
      by_cases c5:0≤from_∧from_≤((QbV l n).length:Int)
      ·have ew:wrap64 (((QbV l n).length:Int)-from_)=((QbV l n).length:Int)-from_:=B.wid (by omega) (by omega)
       simp only [c5,and_self, ↓reduceIte,ew]
       by_cases c6:0≤count∧count≤((QbV l n).length:Int)-from_
       ·simp only [c6,and_self, ↓reduceIte]
        refine B.EvR.bindL (QnL h hn) ?_
        refine B.EvR.bindR (Qd4 h hn) ?_
        simp only [show (QbV l n).length<17592186044416 by omega, ↓reduceIte,Option.bind_some]
        have:=QyW h hn path c5.1 c5.2 c6.1 c6.2
        simp only [c5.1, ↓reduceIte] at this
        refine this.mono fun u v hh=>⟨hh.1,hh.2.1,hh.2.2.trans ?_⟩
        simp only [QcB,c1,c2,c4,c5,c6,k2,and_self, ↓reduceIte,Int.toNat_natCast]
       ·simp only [c6, ↓reduceIte];exact no (by decide) (by simp only [QcB,c1,c2,c4,c5,c6,k2,and_self, ↓reduceIte,Int.toNat_natCast])
      ·simp only [c5, ↓reduceIte];exact no (by decide) (by simp only [QcB,c1,c2,c4,c5,k2,and_self, ↓reduceIte,Int.toNat_natCast])
     ·simp only [k3, ↓reduceIte]
      exact B.EvR.pure ⟨rfl,fun _=>⟨by omega, .inl (by omega)⟩,by simp only [QcB,c1,c2,c4,k2,k3,and_self, ↓reduceIte]⟩
    ·simp only [c4, ↓reduceIte];exact no (by decide) (by simp only [QcB,c1,c2,c4,k2,and_self, ↓reduceIte])
 ·simp only [c1, ↓reduceIte];exact no (by decide) (by simp only [QcB,c1, ↓reduceIte])
end Go.Proofs.YtallpjhkmcgpoaaGreat.X
end
section
namespace Go.Proofs.YtallpjhkmcgpoaaGreat.P
open Go Go.RowKit Go.Proofs.YtallpjhkmcgpoaaGreat.V
def QaX.l0:Nat→(List S38)→Int→Int→(List S38)→Int→Option (List S38)
 | 0,_,_,_,_,_=>none
 | k+1,l0,a2,a3,x9,a1=>if a1<a2 then (if 0≤a1 then (if a1<(l0.length:Int) then (if x9.length<8796093022208 then (QaX.l0 k l0 a2 a3 (x9++([(⟨(Qac l0 a1).f0,wrap64 (((Qac l0 a1).f1)+a3)⟩:S38)])) (wrap64 (a1+1))) else none) else none) else none) else (some x9)
def QaX.f (k:Nat) (l0:List S38) (a1:Int) (a2:Int) (a3:Int):Option (List S38):=QaX.l0 k l0 a2 a3 ([]:List S38) a1
end Go.Proofs.YtallpjhkmcgpoaaGreat.P
end
section
namespace Go.Proofs.YtallpjhkmcgpoaaGreat.P
open Go Go.RowKit Go.Proofs.YtallpjhkmcgpoaaGreat.V
def Qfd.f (k:Nat) (l0:List S38) (a1_0:Int) (l1_1:List Int) (a1_2:Int) (a1_3:Int) (a1_4:Int):Option ((List S38)×Int):=(QG.f k l0).bind fun t1=>(if t1=true then ((Qbz.f k l0 l1_1).bind fun t2=>((QaL.f l0).bind fun t3=>((Qbm.f k l0 a1_0 l1_1 a1_2 a1_3 a1_4 t2).bind fun bt4=>(if bt4.1=0 then (if a1_0=1 then (if 0≤t2 then (if t2<(t3.length:Int) then (some ((t3.set (t2:Int).toNat (⟨a1_2,(Qac t3 t2).f1⟩:S38)),bt4.1)) else none) else none) else (if a1_0=2 then ((Q2.f k l0 t2).bind fun t5=>((QaX.f k l0 0 t2 0).bind fun t6=>((QaX.f k l0 (wrap64 (t2+1)) t5 (-1)).bind fun t7=>(if (t6.length+t7.length) * 16≤140737488355328 then ((some (t6++t7:List S38)).bind fun y1=>((QaX.f k l0 t5 (l0.length:Int) 0).bind fun t8=>(if (y1.length+t8.length) * 16≤140737488355328 then (some ((y1++t8),bt4.1)) else none))) else none)))) else (if 0≤t2 then (if t2<(l0.length:Int) then ((QaX.f k l0 0 bt4.2.1 0).bind fun t9=>(if t9.length<8796093022208 then ((some (t9++([(⟨a1_2,wrap64 (((Qac l0 t2).f1)+1)⟩:S38)]):List S38)).bind fun y3=>((QaX.f k l0 bt4.2.1 bt4.2.2 1).bind fun t10=>(if (y3.length+t10.length) * 16≤140737488355328 then ((some (y3++t10:List S38)).bind fun y4=>((QaX.f k l0 bt4.2.2 (l0.length:Int) 0).bind fun t11=>(if (y4.length+t11.length) * 16≤140737488355328 then (some ((y4++t11),bt4.1)) else none))) else none))) else none)) else none) else none))) else (some (t3,bt4.1)))))) else (some (([]:List S38),2)))
end Go.Proofs.YtallpjhkmcgpoaaGreat.P
end
section
namespace Go.Proofs.YtallpjhkmcgpoaaGreat.X
open Go Go.RowKit Go.Proofs.YtallpjhkmcgpoaaGreat.V Go.Proofs.YtallpjhkmcgpoaaGreat.P
def Qd6 (d:Int) (x:S38):S38:=⟨x.f0,x.f1+d⟩
def Qbj (l:List S38) (a b:Nat) (d:Int):List S38:=((l.drop a).take (b-a)).map (Qd6 d)
theorem QfI (l:List S38) {a b:Nat} (d:Int) (h:a≤b) (hb:b<l.length):Qbj l a (b+1) d=Qbj l a b d++[Qd6 d (l.getD b z38)]:=by
 unfold Qbj
 have h1:(l.drop a)[b-a]? = some (l.getD b z38):=by
  rw [List.getElem?_drop,show a+(b-a)=b by omega,List.getElem?_eq_getElem hb,B.getD_lt hb]
 rw [show b+1-a=(b-a)+1 by omega,List.take_add_one,h1,Option.toList_some,List.map_append]
 rfl
theorem Qgz (l:List S38) (a:Nat) (d:Int):Qbj l a a d=[]:=by unfold Qbj;simp
theorem QbS (l:List S38) {a b:Nat} (d:Int) (h:a≤b) (hb:b≤l.length):(Qbj l a b d).length=b-a:=by unfold Qbj;simp;omega
theorem Qf6:Qd6 0=id:=by funext x;unfold Qd6;rw [Int.add_zero];rfl
theorem Qdt (l:List S38) (b:Nat):Qbj l 0 b 0=l.take b:=by unfold Qbj;rw [Qf6,List.map_id,List.drop_zero,Nat.sub_zero]
theorem Qdu (l:List S38) (a:Nat):Qbj l a l.length 0=l.drop a:=by unfold Qbj;rw [Qf6,List.map_id];exact List.take_of_length_le (by rw [List.length_drop];omega)
theorem QlU {l:List S38} (h:okT l=true) {a b:Nat} (hb:b≤l.length) {d:Int} (hd : -1≤d∧d≤1):∀ (n j:Nat),j+n=b→a≤j→B.Ev (fun k=>QaX.l0 k l (b:Int) d (Qbj l a j d) (j:Int)) (Qbj l a b d):=by
 intro n
 have hl:=QaT h
 induction n with
 | zero =>
  intro j hj ha
  refine B.Ev.succ ?_
  have:j=b:=by omega
  subst this
  simp only [QaX.l0,Int.lt_irrefl, ↓reduceIte]
  exact B.Ev.pure _
 | succ n ih =>
  intro j hj ha
  refine B.Ev.succ ?_
  have hp:=Qcd h (show j<l.length by omega)
  have hw:=B.wsucc (show j<9223372036854775807 by omega)
  have hs:=QbS l (a:=a) (b:=j) d ha (by omega)
  have e1:wrap64 ((l.getD j z38).f1+d)=(l.getD j z38).f1+d:=B.wid (show -9223372036854775808≤dep l j+d by omega) (show dep l j+d≤9223372036854775807 by omega)
  simp only [QaX.l0,show ((j:Int)<(b:Int)) by omega,show (0:Int)≤(j:Int) by omega,show (j:Int)<(l.length:Int) by omega, ↓reduceIte,QbI,e1,hw,show (Qbj l a j d).length<8796093022208 by omega]
  have:=ih (j+1) (by omega) (by omega)
  rw [QfI l d ha (by omega)] at this
  exact this
theorem Qe1 {l:List S38} (h:okT l=true) {a b:Nat} (hab:a≤b) (hb:b≤l.length) {d:Int} (hd : -1≤d∧d≤1):B.Ev (fun k=>QaX.f k l (a:Int) (b:Int) d) (Qbj l a b d):=by
 have:=QlU h (a:=a) hb hd (b-a) a (by omega) (Nat.le_refl _)
 rw [Qgz] at this
 exact this
def mid (l:List S38) (a b:Nat) (d:Int):List S38:=l.take a++(Qbj l a b d++l.drop b)
theorem QmA (l:List S38) (a:Nat) (d:Int):mid l a a d=l:=by unfold mid;rw [Qgz,List.nil_append,List.take_append_drop]
theorem Qhf (l:List S38) {a b:Nat} (d:Int) (h:a≤b) (hb:b≤l.length):(mid l a b d).length=l.length:=by
 unfold mid
 rw [List.length_append,List.length_append,QbS l d h hb,List.length_take,List.length_drop];omega
theorem Qmz (l:List S38) {a b:Nat} (d:Int) (h:a≤b) (hb:b<l.length):(mid l a b d).getD b z38=l.getD b z38:=by
 unfold mid
 have h1:(l.take a).length=a:=by rw [List.length_take];omega
 have h2:=QbS l (a:=a) (b:=b) d h (by omega)
 rw [List.getD_eq_getElem?_getD,List.getD_eq_getElem?_getD,List.getElem?_append_right (by omega),List.getElem?_append_right (by omega),List.getElem?_drop,h1,h2]
 congr 2;omega
theorem Qmy (l:List S38) {a b:Nat} (d:Int) (h:a≤b) (hb:b<l.length):(mid l a b d).set b (Qd6 d (l.getD b z38))=mid l a (b+1) d:=by
 unfold mid
 have h1:(l.take a).length=a:=by rw [List.length_take];omega
 have h2:=QbS l (a:=a) (b:=b) d h (by omega)
 rw [List.set_append_right _ _ (by omega),List.set_append_right _ _ (by omega),h1,h2,show b-a-(b-a)=0 by omega,List.drop_eq_getElem_cons hb,List.set_cons_zero,QfI l d h hb,List.append_assoc]
 rfl
theorem Qs2 (l:List S38) {i e:Nat} (hi:i+1≤e) (he:e≤l.length) (d:Int):(mid l (i+1) e d).take i++(mid l (i+1) e d).drop (i+1)=l.take i++(Qbj l (i+1) e d++l.drop e):=by
 unfold mid
 have h1:(l.take (i+1)).length=i+1:=by rw [List.length_take];omega
 rw [List.take_append_of_le_length (by omega),List.take_take,Nat.min_eq_left (by omega),List.drop_append,List.drop_of_length_le (by omega),h1,Nat.sub_self,List.drop_zero,List.nil_append]
theorem Qs1 (l:List S38) {a b:Nat} (ha:a≤l.length) (d:Int) (xs:List S38):(mid l a b d).take a++xs++(mid l a b d).drop a=l.take a++xs++(Qbj l a b d++l.drop b):=by
 unfold mid
 have h1:(l.take a).length=a:=by rw [List.length_take];omega
 rw [List.take_append_of_le_length (by omega),List.take_take,Nat.min_self,List.drop_append,List.drop_of_length_le (by omega),h1,Nat.sub_self,List.drop_zero,List.nil_append]
theorem QtF {l:List S38} (h:okT l=true) {i:Nat} (hi:i<l.length) (path:List Int):∀ (n j:Nat),j+n=Qbi l i→i+1≤j→B.Ev (fun k=>Qo.l0 k l (mid l (i+1) j (-1)) (i:Int) (j:Int) path) (l.take i++(Qbj l (i+1) (Qbi l i) (-1)++l.drop (Qbi l i)),0):=by
 intro n
 have hl:=QaT h
 have he:=Qbo l hi
 have hwi:=B.wsucc (show i<9223372036854775807 by omega)
 induction n with
 | zero =>
  intro j hj hij
  have:j=Qbi l i:=by omega
  subst this
  have hm:=Qhf l (a:=i+1) (b:=Qbi l i) (-1) hij he.2.1
  refine B.Ev.succ ?_
  simp only [Qo.l0]
  refine B.Ev.bind (Qd4 h hi) ?_
  simp only [Int.lt_irrefl, ↓reduceIte,hwi,Qag.f,show (0:Int)≤(i:Int) by omega,show (i:Int)≤((i+1:Nat):Int) by omega,hm,show ((i+1:Nat):Int)≤(l.length:Int) by omega,show l.length * 16≤140737488355328 by omega,Option.bind_some,Int.toNat_natCast,Qs2 l hij he.2.1]
  exact B.Ev.pure _
 | succ n ih =>
  intro j hj hij
  have hjl:j<l.length:=by omega
  have hm:=Qhf l (a:=i+1) (b:=j) (-1) hij (by omega)
  have hp:=Qcd h hjl
  have hw:=B.wsucc (show j<9223372036854775807 by omega)
  have e1:wrap64 ((l.getD j z38).f1-1)=(l.getD j z38).f1 + -1:=B.wid (show -9223372036854775808≤dep l j-1 by omega) (show dep l j-1≤9223372036854775807 by omega)
  have ms:=Qmy l (a:=i+1) (b:=j) (-1) hij hjl
  unfold Qd6 at ms
  refine B.Ev.succ ?_
  simp only [Qo.l0]
  refine B.Ev.bind (Qd4 h hi) ?_
  simp only [show ((j:Int)<(Qbi l i:Int)) by omega,show (0:Int)≤(j:Int) by omega,hm,show (j:Int)<(l.length:Int) by omega, ↓reduceIte,QbI,Qmz l (-1) hij hjl,e1,hw,Int.toNat_natCast,ms]
  exact ih (j+1) (by omega) (by omega)
theorem Qtc {l:List S38} (h:okT l=true) {i:Nat} (hi:i<l.length) {a b:Nat} (hab:a≤b) (hb:b≤l.length) (path:List Int) (kind label from_ count:Int):∀ (n j:Nat),j+n=b→a≤j →
 B.Ev (fun k=>Qo.l1 k l kind path label from_ count (mid l a j 1) (i:Int) (a:Int) (b:Int) (j:Int)) (l.take a++[(⟨label,dep l i+1⟩:S38)]++(Qbj l a b 1++l.drop b),0):=by
 intro n
 have hl:=QaT h
 induction n with
 | zero =>
  intro j hj hij
  have:j=b:=by omega
  subst this
  have hm:=Qhf l (a:=a) (b:=j) 1 hij hb
  have hp:=Qcd h hi
  have e1:wrap64 ((l.getD i z38).f1+1)=dep l i+1:=B.wid (show -9223372036854775808≤dep l i+1 by omega) (show dep l i+1≤9223372036854775807 by omega)
  refine B.Ev.succ ?_
  simp only [Qo.l1,Int.lt_irrefl, ↓reduceIte,QbI,e1,Qaf.f,show (0:Int)≤(i:Int) by omega,show (i:Int)<(l.length:Int) by omega,show (0:Int)≤(a:Int) by omega,hm,show (a:Int)≤(l.length:Int) by omega,List.length_singleton,show 0<1 by decide,show (l.length+1) * 16≤140737488355328 by omega,Option.bind_some,Int.toNat_natCast,Qs1 l (show a≤l.length by omega)]
  exact B.Ev.pure _
 | succ n ih =>
  intro j hj hij
  have hjl:j<l.length:=by omega
  have hm:=Qhf l (a:=a) (b:=j) 1 hij (by omega)
  have hp:=Qcd h hjl
  have hw:=B.wsucc (show j<9223372036854775807 by omega)
  have e1:wrap64 ((l.getD j z38).f1+1)=(l.getD j z38).f1+1:=B.wid (show -9223372036854775808≤dep l j+1 by omega) (show dep l j+1≤9223372036854775807 by omega)
  have ms:=Qmy l (a:=a) (b:=j) 1 hij hjl
  unfold Qd6 at ms
  refine B.Ev.succ ?_
  simp only [Qo.l1,show ((j:Int)<(b:Int)) by omega,show (0:Int)≤(j:Int) by omega,hm,show (j:Int)<(l.length:Int) by omega, ↓reduceIte,QbI,Qmz l 1 hij hjl,e1,hw,Int.toNat_natCast,ms]
  exact ih (j+1) (by omega) (by omega)
def apN (l:List S38) (kind label from_ count:Int) (path:List Int):List S38×Int :=
 if okT l=true then
  (if (QcB l kind label from_ count (QbO l path)).1=0 then
   (if kind=1 then (l.set (QbO l path).toNat ⟨label,dep l (QbO l path).toNat⟩,0)
   else if kind=2 then (l.take (QbO l path).toNat++(Qbj l ((QbO l path).toNat+1) (Qbi l (QbO l path).toNat) (-1)++l.drop (Qbi l (QbO l path).toNat)),0)
   else (l.take (QcB l kind label from_ count (QbO l path)).2.1.toNat++[(⟨label,dep l (QbO l path).toNat+1⟩:S38)]++(Qbj l (QcB l kind label from_ count (QbO l path)).2.1.toNat (QcB l kind label from_ count (QbO l path)).2.2.toNat 1++l.drop (QcB l kind label from_ count (QbO l path)).2.2.toNat),0))
  else (l,(QcB l kind label from_ count (QbO l path)).1))
 else ([],2)
def Qzk (l:List S38) (kind:Int) (path:List Int):Prop:=okT l=true∧∃ n:Nat,QbO l path=(n:Int)∧n<l.length∧(kind=1∨(kind=2∧n≠0)∨kind=3)
theorem Qij {l:List S38} (hl:l.length≤4194304) (kind label from_ count:Int) (path:List Int) (hp:path.length≤4611686018427387904) (hf : -9223372036854775808≤from_∧from_≤9223372036854775807) :
 B.EvR (fun k=>Qfd.f k l kind path label from_ count) (fun k=>Qo.f k l kind path label from_ count) (fun u v=>u=v∧u.1.length≤24∧u=apN l kind label from_ count path∧(u.2=0→Qzk l kind path)):=by
 simp only [Qfd.f,Qo.f]
 refine B.EvR.bindL (B.Ev.of _ (fun k hk=>Qcl l hl k hk)) ?_
 refine B.EvR.bindR (B.Ev.of _ (fun k hk=>Qb7 l hl k hk)) ?_
 by_cases h:okT l=true
 ·have h24:=QaT h
  simp only [h, ↓reduceIte,QaL.f,Qz.f,show l.length * 16≤140737488355328 by omega,Option.bind_some]
  obtain ⟨n1,n2⟩:=Qkj l hl path hp
  refine B.EvR.bindL n1 ?_
  refine B.EvR.bindR n2 ?_
  have hi:QbO l path = -1∨∃ n:Nat,QbO l path=(n:Int)∧n<l.length:=by
   unfold QbO
   rw [if_pos h]
   exact QjI l path 0 (by omega)
  simp only [apN,h, ↓reduceIte,Qzk]
  generalize QbO l path=i at *
  obtain ⟨u,v,⟨rfl,hc,hcN⟩,g1,g2⟩:=QrD h kind label from_ count path hi hf
  rw [←hcN]
  refine B.EvR.bindL g1 ?_
  refine B.EvR.bindR g2 ?_
  by_cases c0:u.1=0
  ·obtain ⟨hi0,hk⟩:=hc c0
   obtain ⟨n,rfl,hn⟩:∃ n:Nat,i=(n:Int)∧n<l.length:=by
    rcases hi with h|h
    ·omega
    ·exact h
   have a1:(0:Int)≤(n:Int):=by omega
   have a2:(n:Int)<(l.length:Int):=by omega
   simp only [c0, ↓reduceIte,a1,a2,Int.toNat_natCast]
   by_cases k1:kind=1
   ·simp only [k1, ↓reduceIte]
    exact B.EvR.pure ⟨rfl,by simp only [List.length_set];omega,rfl,fun _=>⟨trivial,n,rfl,hn, .inl trivial⟩⟩
   ·by_cases k2:kind=2
    ·simp only [k2, ↓reduceIte,show ¬((2:Int)=1) by decide]
     have he:=Qbo l hn
     have hw:=B.wsucc (show n<9223372036854775807 by omega)
     have s1:=Qe1 h (a:=0) (b:=n) (Nat.zero_le _) (by omega) (d:=0) (by decide)
     have s2:=Qe1 h (a:=n+1) (b:=Qbi l n) (by omega) he.2.1 (d := -1) (by decide)
     have s3:=Qe1 h (a:=Qbi l n) (b:=l.length) he.2.1 (Nat.le_refl _) (d:=0) (by decide)
     have t1:=QbS l (a:=0) (b:=n) 0 (Nat.zero_le _) (by omega)
     have t2:=QbS l (a:=n+1) (b:=Qbi l n) (-1) (by omega) he.2.1
     have t3:=QbS l (a:=Qbi l n) (b:=l.length) 0 he.2.1 (Nat.le_refl _)
     refine B.EvR.bindL (QnL h hn) ?_
     refine B.EvR.bindL s1 ?_
     simp only [hw]
     refine B.EvR.bindL s2 ?_
     simp only [show ((Qbj l 0 n 0).length+(Qbj l (n+1) (Qbi l n) (-1)).length) * 16≤140737488355328 by omega, ↓reduceIte,Option.bind_some]
     refine B.EvR.bindL s3 ?_
     simp only [List.length_append,show ((Qbj l 0 n 0).length+(Qbj l (n+1) (Qbi l n) (-1)).length+(Qbj l (Qbi l n) l.length 0).length) * 16≤140737488355328 by omega, ↓reduceIte]
     have hd:=QtF h hn path (Qbi l n-(n+1)) (n+1) (by omega) (Nat.le_refl _)
     rw [QmA] at hd
     refine B.EvR.of ⟨?_, ?_, ?_,fun _=>⟨trivial,n,rfl,hn, .inr (.inl ⟨trivial, ?_⟩)⟩⟩ (B.Ev.pure _) hd
     ·rw [Qdt,Qdu,List.append_assoc]
     ·simp only [List.length_append,t1,t2,t3];omega
     ·rw [Qdt,Qdu,List.append_assoc]
     ·rcases hk with q|q|q <;> omega
    ·simp only [k1,k2, ↓reduceIte]
     obtain ⟨k3,hlt,a,b,hab,h1,h2,h3⟩:=(hk.resolve_left k1).resolve_left (fun hh=>k2 hh.1)
     have s1:=Qe1 h (a:=0) (b:=a) (Nat.zero_le _) (by omega) (d:=0) (by decide)
     have s2:=Qe1 h (a:=a) (b:=b) h2 h3 (d:=1) (by decide)
     have s3:=Qe1 h (a:=b) (b:=l.length) h3 (Nat.le_refl _) (d:=0) (by decide)
     have t1:=QbS l (a:=0) (b:=a) 0 (Nat.zero_le _) (by omega)
     have t2:=QbS l (a:=a) (b:=b) 1 h2 h3
     have t3:=QbS l (a:=b) (b:=l.length) 0 h3 (Nat.le_refl _)
     have hpn:=Qcd h hn
     have e1:wrap64 ((l.getD n z38).f1+1)=dep l n+1:=B.wid (show -9223372036854775808≤dep l n+1 by omega) (show dep l n+1≤9223372036854775807 by omega)
     have ha:u.2.1=(a:Int):=by rw [hab]
     have hb:u.2.2=(b:Int):=by rw [hab]
     simp only [ha,hb,QbI,e1,Int.toNat_natCast]
     refine B.EvR.bindL s1 ?_
     simp only [show (Qbj l 0 a 0).length<8796093022208 by omega, ↓reduceIte,Option.bind_some]
     refine B.EvR.bindL s2 ?_
     simp only [List.length_append,List.length_singleton,show ((Qbj l 0 a 0).length+1+(Qbj l a b 1).length) * 16≤140737488355328 by omega, ↓reduceIte,Option.bind_some]
     refine B.EvR.bindL s3 ?_
     simp only [show ((Qbj l 0 a 0).length+1+(Qbj l a b 1).length+(Qbj l b l.length 0).length) * 16≤140737488355328 by omega, ↓reduceIte]
     have hd:=Qtc h hn h2 h3 path kind label from_ count (b-a) a (by omega) (Nat.le_refl _)
     rw [QmA] at hd
     refine B.EvR.of ⟨?_, ?_, ?_,fun _=>⟨trivial,n,rfl,hn, .inr (.inr k3)⟩⟩ (B.Ev.pure _) hd
     ·rw [Qdt,Qdu,List.append_assoc]
     ·simp only [List.length_append,List.length_singleton,t1,t2,t3];omega
     ·rw [Qdt,Qdu,List.append_assoc]
  ·simp only [c0, ↓reduceIte]
   exact B.EvR.pure ⟨rfl,h24.2,rfl,fun e=>absurd e c0⟩
 ·simp only [h, ↓reduceIte]
  exact B.EvR.pure ⟨rfl,Nat.zero_le _,by simp only [apN,h, ↓reduceIte];rfl,fun e=>by cases e⟩
end Go.Proofs.YtallpjhkmcgpoaaGreat.X
end
section
namespace Go.Proofs.YtallpjhkmcgpoaaGreat.X
open Go Go.RowKit Go.Proofs.YtallpjhkmcgpoaaGreat.V Go.Proofs.YtallpjhkmcgpoaaGreat.P
def Srt (S:List Nat):Prop:=S.Pairwise (· < ·)
theorem Qeb:∀ {S T:List Nat}, Srt S→Srt T→(∀ x,x∈S↔x∈T)→S=T
 | [],[],_,_,_=>rfl
 | [],t::T,_,_,h=>absurd ((h t).2 (List.mem_cons_self ..)) (by simp)
 | s::S,[],_,_,h=>absurd ((h s).1 (List.mem_cons_self ..)) (by simp)
 | s::S,t::T,hs,ht,h=>by
  obtain ⟨a1,a2⟩:=List.pairwise_cons.1 hs
  obtain ⟨b1,b2⟩:=List.pairwise_cons.1 ht
  have e:s=t:=by
   rcases List.mem_cons.1 ((h s).1 (List.mem_cons_self ..)) with c|c
   ·exact c
   ·rcases List.mem_cons.1 ((h t).2 (List.mem_cons_self ..)) with d|d
    ·exact d.symm
    ·have:=b1 s c;have:=a1 t d;omega
  subst e
  rw [Qeb a2 b2 fun x=>⟨fun hx=>by
   rcases List.mem_cons.1 ((h x).1 (List.mem_cons_of_mem _ hx)) with c|c
   ·have:=a1 x hx;omega
   ·exact c,fun hx=>by
   rcases List.mem_cons.1 ((h x).2 (List.mem_cons_of_mem _ hx)) with c|c
   ·have:=b1 x hx;omega
   ·exact c⟩]
theorem QbL (t:Nat):∀ {S:List Nat}, Srt S→S=S.filter (fun s=>decide (s<t))++S.filter (fun s=>decide (t≤s))
 | [],_=>rfl
 | y::S,h=>by
  obtain ⟨a1,a2⟩:=List.pairwise_cons.1 h
  by_cases c:y<t
  ·rw [List.filter_cons_of_pos (by simpa using c),List.filter_cons_of_neg (by simpa using c),List.cons_append, ←QbL t a2]
  ·have e:S.filter (fun s=>decide (s<t))=[]:=by
    rw [List.filter_eq_nil_iff];intro x hx;have:=a1 x hx;simp;omega
   have e2:S.filter (fun s=>decide (t≤s))=S:=by
    rw [List.filter_eq_self];intro x hx;have:=a1 x hx;simp;omega
   rw [List.filter_cons_of_neg (by simpa using c),List.filter_cons_of_pos (by simp;omega),e,e2,List.nil_append]
def pos (S:List Nat) (t:Nat):Nat:=S.countP (fun s=>decide (s<t))
theorem Qcq {t:Nat} : ∀ {S:List Nat}, Srt S→∀ {g:Nat}, g<S.length→(S.getD g 0<t↔g<pos S t)
 | [],_,g,h=>by simp at h
 | y::S,hs,g,h=>by
  obtain ⟨a1,a2⟩:=List.pairwise_cons.1 hs
  have hall:¬y<t→S.countP (fun s=>decide (s<t))=0:=fun c=>by
   rw [List.countP_eq_zero];intro x hx;have:=a1 x hx;simp;omega
  cases g with
  | zero =>
   simp only [List.getD_cons_zero,pos,List.countP_cons]
   by_cases c:y<t
   ·simp [c]
   ·simp [c,hall c]
  | succ g =>
   have ih:=Qcq (t:=t) a2 (g:=g) (by simpa using h)
   simp only [List.getD_cons_succ,pos,List.countP_cons]
   by_cases c:y<t
   ·simp only [c,decide_true, ↓reduceIte];unfold pos at ih;rw [ih];omega
   ·have hm:y<S.getD g 0:=a1 _ (Qbt (by simpa using h))
    simp only [c,decide_false,hall c,Bool.false_eq_true, ↓reduceIte];omega
theorem Qe5 {α:Type} {p q r:α→Bool} : ∀ {S:List α}, (∀ x∈S,r x=(p x || q x)∧(p x && q x)=false)→S.countP p+S.countP q=S.countP r
 | [],_=>rfl
 | y::S,h=>by
  have ih:=Qe5 (p:=p) (q:=q) (r:=r) (S:=S) fun x hx=>h x (List.mem_cons_of_mem _ hx)
  obtain ⟨h1,h2⟩:=h y (List.mem_cons_self ..)
  simp only [List.countP_cons,h1]
  cases a:p y <;> cases b:q y <;> simp_all <;> omega
theorem QtK {S:List Nat} (h:Srt S) {p:Nat} (hp:p∈S):S.countP (fun s=>decide (s=p))=1:=by
 induction S with
 | nil=>cases hp
 | cons y S ih =>
  obtain ⟨a1,a2⟩:=List.pairwise_cons.1 h
  rw [List.countP_cons]
  by_cases c:y=p
  ·subst c
   have:S.countP (fun s=>decide (s=y))=0:=by rw [List.countP_eq_zero];intro x hx;have:=a1 x hx;simp;omega
   simp [this]
  ·rcases List.mem_cons.1 hp with d|d
   ·exact absurd d.symm c
   ·simp [c,ih a2 d]
theorem Qiu {S:List Nat} (h:Srt S) {p:Nat} (hp:p∈S) {q:Nat→Bool} (hq:q p=false):S.countP (fun s=>q s || decide (s=p))=S.countP q+1:=by
 rw [←QtK h hp,Qe5]
 intro s _
 refine ⟨rfl, ?_⟩
 by_cases c:s=p
 ·subst c;rw [hq];rfl
 ·rw [decide_eq_false c,Bool.and_false]
theorem Qn4 {n:Nat} {S:List Nat} (h:Srt S) (hb:∀ x∈S,x<n) (q:Nat→Bool):S.countP q≤(List.range n).countP q:=by
 have e:S=(List.range n).filter (fun x=>decide (x∈S)):=Qeb h (List.Pairwise.filter _ List.pairwise_lt_range) fun x=>by
  rw [List.mem_filter,List.mem_range]
  exact ⟨fun hx=>⟨hb x hx,by simpa using hx⟩,fun hx=>by simpa using hx.2⟩
 rw [e]
 exact List.Sublist.countP_le List.filter_sublist
theorem Qds {n:Nat} {S:List Nat} (h:Srt S) (hb:∀ x∈S,x<n):S.length≤n:=by
 have:=Qn4 h hb (fun _=>true)
 simpa [List.countP_true] using this
def up (a:List S38) (s x:Nat):Bool:=decide (s<x∧x<Qbi a s)
theorem QbQ {a:List S38} {s x:Nat} : up a s x=true↔s<x∧x<Qbi a s:=by simp [up]
theorem Qsl {a:List S38} {s x y:Nat} (hx:y<a.length) (h1:up a s x=true) (h2:up a x y=true):up a s y=true:=by
 rw [QbQ] at *
 have:=QdO a (show x<a.length by omega) h1.1 h1.2
 omega
theorem Qqa {a:List S38} {s t y:Nat} (h1:up a s y=true) (h2:up a t y=true) (h:s<t):up a s t=true:=by
 rw [QbQ] at *; omega
theorem Qsm {a:List S38} (h:okT a=true) {x:Nat} (h0:0<x) (hx:x<a.length):up a 0 x=true:=by
 rw [QbQ]
 refine (QhI a hx).2 ⟨h0,fun g g1 g2 => ?_⟩
 have r0:=(Qcd h (show 0<a.length by omega)).2.2.1.2 rfl
 have r1:=Qcd h (show g<a.length by omega)
 have n1:¬dep a g=0:=fun e=>by have:=r1.2.2.1.1 e;omega
 omega
theorem Qd5 {a:List S38} {s:Nat} (h:s<a.length):s<Qbi a s∧Qbi a s≤a.length:=⟨(Qbo a h).1,(Qbo a h).2.1⟩
theorem Qp9 {a:List S38} (h:okT a=true) {x:Nat} (hx:x<a.length) (h0:x≠0) (s:Nat):up a s x=(decide (s=QbJ a x) || up a s (QbJ a x)):=by
 obtain ⟨e,hp⟩:=Qc6 h hx h0
 have hk:=Qdz a (show QbJ a x<a.length by omega) (QfU h hx h0)
 have hu:up a (QbJ a x) x=true:=QbQ.2 ⟨hk.1,hk.2.1⟩
 rw [Bool.eq_iff_iff,Bool.or_eq_true,decide_eq_true_eq]
 constructor
 ·intro hs
  rcases Nat.lt_trichotomy s (QbJ a x) with c|c|c
  ·exact .inr (Qqa hs hu c)
  ·exact .inl c
  ·have h1:=(QfM a x).2.2.1 s (by omega) (QbQ.1 hs).1
   have h2:=(Qbo a (show s<a.length by have:=QbQ.1 hs;omega)).2.2.1 x (QbQ.1 hs).1 (QbQ.1 hs).2
   omega
 ·rintro (rfl|hs)
  ·exact hu
  ·exact Qsl hx hs hu
def dpt (a:List S38) (S:List Nat) (x:Nat):Nat:=S.countP (fun s=>up a s x)
theorem QnR {a:List S38} (h:okT a=true) {S:List Nat} (hS:Srt S) {x:Nat} (hx:x<a.length) (h0:x≠0) (hp:QbJ a x∈S):dpt a S x=dpt a S (QbJ a x)+1:=by
 unfold dpt
 rw [←Qiu hS hp (q:=fun s=>up a s (QbJ a x)) (by simp [up])]
 congr 1
 funext s
 rw [Qp9 h hx h0,Bool.or_comm]
theorem QnX {a:List S38} (h:okT a=true):∀ x,x<a.length→dep a x=(dpt a (List.range a.length) x:Int):=by
 intro x
 induction x using Nat.strongRecOn with
 | _ x ih =>
  intro hx
  by_cases h0:x=0
  ·subst h0
   have e:dpt a (List.range a.length) 0=0:=by unfold dpt;rw [List.countP_eq_zero];intro s _;simp [up]
   rw [e];exact (Qcd h hx).2.2.1.2 rfl
  ·have hp:=(Qc6 h hx h0).2
   have hk:=QfU h hx h0
   unfold QbV QgE at hk
   rw [List.mem_filter] at hk
   have hk2:=of_decide_eq_true hk.2
   rw [QnR h List.pairwise_lt_range hx h0 (by rw [List.mem_range];omega),hk2,ih _ hp (by omega)]
   rfl
def cut (a:List S38) (f:Nat→Int) (S:List Nat):List S38:=S.map fun x=>⟨f x,(dpt a S x:Int)⟩
def Sub (n:Nat) (S:List Nat):Prop:=Srt S∧(∀ x∈S,x<n)∧0∈S
theorem Sub.ne {n:Nat} {S:List Nat} (h:Sub n S):∃ T,S=0::T∧∀ x∈T,0<x:=by
 cases S with
 | nil=>exact absurd h.2.2 (by simp)
 | cons y T =>
  have a1:=(List.pairwise_cons.1 h.1).1
  rcases List.mem_cons.1 h.2.2 with c|c
  ·subst c;exact ⟨T,rfl,a1⟩
  ·have:=a1 0 c;omega
theorem Qa1 {a:List S38} {f:Nat→Int} {S:List Nat} : (cut a f S).length=S.length:=List.length_map _
theorem QeH {a:List S38} {f:Nat→Int} {S:List Nat} {i:Nat} (h:i<S.length):(cut a f S).getD i z38=⟨f (S.getD i 0),(dpt a S (S.getD i 0):Int)⟩:=by
 unfold cut
 rw [B.getD_lt (by simpa using h),List.getElem_map,B.getD_lt h]
theorem QcI {a:List S38} {f:Nat→Int} {S:List Nat} {i:Nat} (h:i<S.length):dep (cut a f S) i=(dpt a S (S.getD i 0):Int):=by unfold dep;rw [QeH h]
theorem Qn1 {a:List S38} {f:Nat→Int} {S:List Nat} {i:Nat} (h:i<S.length):lab (cut a f S) i=f (S.getD i 0):=by unfold lab;rw [QeH h]
theorem Qes {S:List Nat} (h:Srt S) {i j:Nat} (hij:i<j) (hj:j<S.length):S.getD i 0<S.getD j 0:=by
 rw [B.getD_lt (by omega),B.getD_lt hj];exact List.pairwise_iff_getElem.1 h i j (by omega) hj hij
theorem Qdx {S:List Nat} {x:Nat} (h:x∈S):∃ i,i<S.length∧S.getD i 0=x:=by
 obtain ⟨i,hi,e⟩:=List.getElem_of_mem h
 exact ⟨i,hi,by rw [B.getD_lt hi,e]⟩
theorem QvJ {l:List S38} (h1:1≤l.length) (h2:l.length≤24) (h:∀ i,i<l.length→Qpb l i=true):okT l=true:=by
 unfold okT Qdj
 rw [Bool.and_eq_true,decide_eq_true_eq,List.all_eq_true]
 exact ⟨⟨h1,h2⟩,fun i hi=>h i (List.mem_range.1 hi)⟩
theorem QnS {a:List S38} (h:okT a=true) {S:List Nat} (hS:Srt S) (hb:∀ x∈S,x<a.length) {x:Nat} (hx:x<a.length):(dpt a S x:Int)≤12:=by
 have h1:=Qn4 hS hb (fun s=>up a s x)
 have h2:=QnX h x hx
 have h3:=(Qcd h hx).2.1.2
 unfold dpt at h2 ⊢
 omega
theorem Qjb {a:List S38} {S:List Nat} (hS:Srt S) {i:Nat} (hi:i+1<S.length):dpt a S (S.getD (i+1) 0)≤dpt a S (S.getD i 0)+1:=by
 have hlt:=Qes hS (show i<i+1 by omega) hi
 have hm:S.getD i 0∈S:=Qbt (by omega)
 unfold dpt
 rw [←Qiu hS hm (q:=fun s=>up a s (S.getD i 0)) (by unfold up;simp)]
 refine List.countP_mono_left fun s hs hu => ?_
 rw [Bool.or_eq_true,decide_eq_true_eq]
 obtain ⟨j,hj,rfl⟩:=Qdx hs
 rcases Nat.lt_trichotomy j i with c|c|c
 ·have:=Qes hS c (by omega)
  rw [QbQ] at hu ⊢
  exact .inl ⟨this,by omega⟩
 ·subst c;exact .inr rfl
 ·rw [QbQ] at hu
  rcases Nat.lt_or_ge (i+1) j with d|d
  ·have:=Qes hS d hj;omega
  ·obtain rfl:j=i+1:=by omega
   omega
theorem QdQ {a:List S38} (h:okT a=true) {f:Nat→Int} {S:List Nat} (hS:Sub a.length S) (hf:∀ x∈S,0≤f x∧f x≤5):okT (cut a f S)=true:=by
 obtain ⟨T,e,h0⟩:=hS.ne
 have hl:=QaT h
 have hsl:=Qds hS.1 hS.2.1
 refine QvJ (by rw [Qa1,e];simp) (by rw [Qa1];omega) fun i hi => ?_
 rw [Qa1] at hi
 have hm:S.getD i 0∈S:=Qbt hi
 rw [QbX,Qn1 hi,QcI hi]
 refine ⟨hf _ hm,⟨by omega,QnS h hS.1 hS.2.1 (hS.2.1 _ hm)⟩, ?_, ?_⟩
 ·cases i with
  | zero =>
   have e0:S.getD 0 0=0:=by rw [e];rfl
   have:dpt a S (S.getD 0 0)=0:=by unfold dpt;rw [e0,List.countP_eq_zero];intro s _;simp [up]
   simp only [this];simp
  | succ i =>
   have hx:0<S.getD (i+1) 0:=by have:=Qes hS.1 (show 0<i+1 by omega) hi;omega
   have:0<dpt a S (S.getD (i+1) 0):=by
    unfold dpt;rw [List.countP_pos_iff];exact ⟨0,hS.2.2,Qsm h hx (hS.2.1 _ hm)⟩
   constructor
   ·intro hd;omega
   ·intro hd;omega
 ·cases i with
  | zero=>exact .inl rfl
  | succ i =>
   have:=Qjb (a:=a) hS.1 hi
   rw [Nat.add_sub_cancel,QcI (by omega)]
   exact .inr (by omega)
theorem QpO {l:List S38} {i e:Nat} (hi:i<l.length) (h1:i<e) (h2:e≤l.length) (h3:∀ g,i<g→g<e→dep l g > dep l i) (h4:e<l.length→dep l e≤dep l i):Qbi l i=e:=by
 obtain ⟨s1,s2,s3,s4⟩:=Qbo l hi
 rcases Nat.lt_trichotomy (Qbi l i) e with c|c|c
 ·have:=h3 _ s1 c;have:=s4 (by omega);omega
 ·exact c
 ·have:=s3 e h1 c;have:=h4 (by omega);omega
theorem QhX (S:List Nat) (t:Nat):pos S t≤S.length:=List.countP_le_length
theorem Qn2 {a:List S38} (h:okT a=true) {f:Nat→Int} {S:List Nat} (hS:Sub a.length S) {k:Nat} (hk:k<S.length):Qbi (cut a f S) k=pos S (Qbi a (S.getD k 0)):=by
 have hm:S.getD k 0∈S:=Qbt hk
 have hb:=hS.2.1 _ hm
 have he:=Qd5 hb
 have hle:=QhX S (Qbi a (S.getD k 0))
 refine QpO (by rw [Qa1];exact hk) ((Qcq hS.1 hk).1 he.1) (by rw [Qa1];exact hle) (fun g g1 g2 => ?_) (fun hl => ?_)
 ·have hg:g<S.length:=by omega
  have q1:=Qes hS.1 g1 hg
  have q2:=(Qcq hS.1 hg).2 g2
  have hu:up a (S.getD k 0) (S.getD g 0)=true:=QbQ.2 ⟨q1,q2⟩
  rw [QcI hg,QcI hk]
  have:dpt a S (S.getD k 0)+1≤dpt a S (S.getD g 0):=by
   unfold dpt
   rw [←Qiu hS.1 hm (q:=fun s=>up a s (S.getD k 0)) (by unfold up;simp)]
   refine List.countP_mono_left fun s hs hs2 => ?_
   rw [Bool.or_eq_true,decide_eq_true_eq] at hs2
   rcases hs2 with c|rfl
   ·exact Qsl (hS.2.1 _ (Qbt hg)) c hu
   ·exact hu
  omega
 ·rw [Qa1] at hl
  rw [QcI hl,QcI hk]
  have hn:¬S.getD (pos S (Qbi a (S.getD k 0))) 0<Qbi a (S.getD k 0):=fun c=>by
   have:=(Qcq hS.1 hl).1 c;omega
  have:dpt a S (S.getD (pos S (Qbi a (S.getD k 0))) 0)≤dpt a S (S.getD k 0):=by
   refine List.countP_mono_left fun s hs hu => ?_
   obtain ⟨j,hj,rfl⟩:=Qdx hs
   have hu':=QbQ.1 hu
   have hj2:j<pos S (Qbi a (S.getD k 0)):=by
    rcases Nat.lt_or_ge j (pos S (Qbi a (S.getD k 0))) with c|c
    ·exact c
    ·rcases Nat.lt_or_ge (pos S (Qbi a (S.getD k 0))) j with d|d
     ·have:=Qes hS.1 d hj;omega
     ·obtain rfl:j=pos S (Qbi a (S.getD k 0)):=by omega
      omega
   have q:=(Qcq hS.1 hj).2 hj2
   rw [QbQ]
   rcases Nat.lt_or_ge (S.getD j 0) (S.getD k 0) with c|c
   ·exact ⟨c,by omega⟩
   ·rcases Nat.lt_or_ge (S.getD k 0) (S.getD j 0) with d|d
    ·have:=QdO a (hS.2.1 _ (Qbt hj)) d q;omega
    ·have e:S.getD j 0=S.getD k 0:=by omega
     rw [e] at hu';omega
  omega
end Go.Proofs.YtallpjhkmcgpoaaGreat.X
end
section
namespace Go.Proofs.YtallpjhkmcgpoaaGreat.X
open Go Go.RowKit Go.Proofs.YtallpjhkmcgpoaaGreat.V Go.Proofs.YtallpjhkmcgpoaaGreat.P
theorem Qe3 (a:List S38) (A B:List Nat) (x:Nat):dpt a (A++B) x=dpt a A x+dpt a B x:=List.countP_append ..
theorem Qht (a:List S38) (y:Nat) (B:List Nat) (x:Nat):dpt a (y::B) x=dpt a B x+if up a y x=true then 1 else 0:=List.countP_cons ..
theorem Qvu {A M T:List Nat} (F:Nat→S38) (d:Int):((A++(M++T)).map F).take A.length=A.map F∧Qbj ((A++(M++T)).map F) A.length (A.length+M.length) d=M.map (fun y=>Qd6 d (F y))∧((A++(M++T)).map F).drop (A.length+M.length)=T.map F:=by
 have e1:(A.map F).length=A.length:=List.length_map _
 have e2:(M.map F).length=M.length:=List.length_map _
 rw [List.map_append,List.map_append]
 refine ⟨by rw [←e1];exact List.take_left' rfl, ?_, ?_⟩
 ·unfold Qbj
  rw [show List.drop A.length (A.map F++(M.map F++T.map F))=M.map F++T.map F by rw [←e1];exact List.drop_left' rfl,show A.length+M.length-A.length=(M.map F).length by omega,List.take_left' rfl,List.map_map]
  rfl
 ·rw [←List.append_assoc, ←e1, ←e2, ←List.length_append];exact List.drop_left' rfl
theorem QtI {a:List S38} {f:Nat→Int} {A M T:List Nat} {x:Nat} (hA:∀ y∈A,y<x) (hM:∀ y∈M,x<y∧y<Qbi a x) (hT:∀ y∈T,Qbi a x≤y) :
 (cut a f (A++x::(M++T))).take A.length++(Qbj (cut a f (A++x::(M++T))) (A.length+1) (A.length+1+M.length) (-1)++(cut a f (A++x::(M++T))).drop (A.length+1+M.length))=cut a f (A++(M++T)):=by
 have hd:∀ y,dpt a (A++x::(M++T)) y=dpt a (A++(M++T)) y+if up a x y=true then 1 else 0:=fun y=>by
  have h1:=Qe3 a A (M++T) y
  rw [Qe3 a A,Qht,h1];omega
 generalize hF:(fun y=>(⟨f y,(dpt a (A++x::(M++T)) y:Int)⟩:S38))=F
 have e0:cut a f (A++x::(M++T))=((A++[x])++(M++T)).map F:=by unfold cut;rw [hF,List.append_assoc];rfl
 have hl:(A++[x]).length=A.length+1:=by simp
 obtain ⟨q1,q2,q3⟩:=Qvu (A:=A++[x]) (M:=M) (T:=T) F (-1)
 rw [hl] at q1 q2 q3
 have q0:(((A++[x])++(M++T)).map F).take A.length=A.map F:=by
  rw [List.append_assoc,List.map_append];exact List.take_left' (List.length_map _)
 rw [e0,q0,q2,q3]
 unfold cut
 rw [List.map_append,List.map_append]
 congr 1
 ·refine List.map_congr_left fun y hy => ?_
  have hu:up a x y=false:=by unfold up;rw [decide_eq_false];have:=hA y hy;omega
  subst hF;simp only [hd,hu,Bool.false_eq_true, ↓reduceIte,Nat.add_zero]
 ·congr 1
  ·refine List.map_congr_left fun y hy => ?_
   have hu:up a x y=true:=QbQ.2 (hM y hy)
   subst hF;simp only [Qd6,hd,hu, ↓reduceIte,S38.mk.injEq,true_and];omega
  ·refine List.map_congr_left fun y hy => ?_
   have hu:up a x y=false:=by unfold up;rw [decide_eq_false];have:=hT y hy;omega
   subst hF;simp only [hd,hu,Bool.false_eq_true, ↓reduceIte,Nat.add_zero]
theorem QtH {a:List S38} {f:Nat→Int} {A M T:List Nat} {v:Nat} (hA:∀ y∈A,y<v) (hM:∀ y∈M,v<y∧y<Qbi a v) (hT:∀ y∈T,Qbi a v≤y) :
 (cut a f (A++(M++T))).take A.length++[(⟨f v,(dpt a (A++(M++T)) v:Int)⟩:S38)]++(Qbj (cut a f (A++(M++T))) A.length (A.length+M.length) 1++(cut a f (A++(M++T))).drop (A.length+M.length))=cut a f (A++v::(M++T)):=by
 have hd:∀ y,dpt a (A++v::(M++T)) y=dpt a (A++(M++T)) y+if up a v y=true then 1 else 0:=fun y=>by
  have h1:=Qe3 a A (M++T) y
  rw [Qe3 a A,Qht,h1];omega
 generalize hF:(fun y=>(⟨f y,(dpt a (A++(M++T)) y:Int)⟩:S38))=F
 have e0:cut a f (A++(M++T))=(A++(M++T)).map F:=by unfold cut;rw [hF]
 obtain ⟨q1,q2,q3⟩:=Qvu (A:=A) (M:=M) (T:=T) F 1
 rw [e0,q1,q2,q3]
 unfold cut
 rw [List.append_assoc,List.map_append,List.map_cons,List.map_append,List.singleton_append]
 congr 1
 ·refine List.map_congr_left fun y hy => ?_
  have hu:up a v y=false:=by unfold up;rw [decide_eq_false];have:=hA y hy;omega
  subst hF;simp only [hd,hu,Bool.false_eq_true, ↓reduceIte,Nat.add_zero]
 ·have hu:up a v v=false:=by unfold up;rw [decide_eq_false];omega
  congr 1
  ·simp only [hd,hu,Bool.false_eq_true, ↓reduceIte,Nat.add_zero]
  ·congr 1
   ·refine List.map_congr_left fun y hy => ?_
    have hu:up a v y=true:=QbQ.2 (hM y hy)
    subst hF;simp only [Qd6,hd,hu, ↓reduceIte,S38.mk.injEq,true_and];omega
   ·refine List.map_congr_left fun y hy => ?_
    have hu:up a v y=false:=by unfold up;rw [decide_eq_false];have:=hT y hy;omega
    subst hF;simp only [hd,hu,Bool.false_eq_true, ↓reduceIte,Nat.add_zero]
def ahd (S:List Nat) (v:Nat):List Nat:=S.filter fun s=>decide (s<v)
def wth (a:List S38) (S:List Nat) (v:Nat):List Nat:=S.filter fun s=>decide (v<s∧s<Qbi a v)
def bhd (a:List S38) (S:List Nat) (v:Nat):List Nat:=S.filter fun s=>decide (Qbi a v≤s)
theorem QeA {S:List Nat} {p q r:Nat→Bool} (h:∀ x,r x=(p x && q x)):(S.filter q).filter p=S.filter r:=by
 rw [List.filter_filter];congr 1;funext x;exact (h x).symm
theorem Qoj {a:List S38} {S:List Nat} (hS:Srt S) {v:Nat} (hv:v<a.length) (hn:v∉S):S=ahd S v++(wth a S v++bhd a S v):=by
 have he:=Qd5 hv
 have h1:=QbL v hS
 have h2:=QbL (Qbi a v) (S:=S.filter fun s=>decide (v≤s)) (List.Pairwise.filter _ hS)
 rw [h2,QeA (r:=fun s=>decide (v≤s∧s<Qbi a v)) (by intro x;rw [Bool.eq_iff_iff];simp;omega),QeA (r:=fun s=>decide (Qbi a v≤s)) (by intro x;rw [Bool.eq_iff_iff];simp;omega)] at h1
 have h3:S.filter (fun s=>decide (v≤s∧s<Qbi a v))=wth a S v:=by
  unfold wth
  refine List.filter_congr fun s hs => ?_
  have:s≠v:=fun e=>hn (e▸hs)
  rw [decide_eq_decide];omega
 rw [h3] at h1
 exact h1
theorem QtS {a:List S38} {S:List Nat} (hS:Srt S) {x:Nat} (hx:x<a.length) (hn:x∈S):S=ahd S x++x::(wth a S x++bhd a S x):=by
 have he:=Qd5 hx
 have h1:=QbL x hS
 have h2:=QbL (x+1) (S:=S.filter fun s=>decide (x≤s)) (List.Pairwise.filter _ hS)
 have h3:=QbL (Qbi a x) (S:=S.filter fun s=>decide (x+1≤s)) (List.Pairwise.filter _ hS)
 rw [QeA (r:=fun s=>decide (x<s∧s<Qbi a x)) (by intro y;rw [Bool.eq_iff_iff];simp;omega),QeA (r:=fun s=>decide (Qbi a x≤s)) (by intro y;rw [Bool.eq_iff_iff];simp;omega)] at h3
 rw [QeA (r:=fun s=>decide (s=x)) (by intro y;rw [Bool.eq_iff_iff];simp;omega),QeA (r:=fun s=>decide (x+1≤s)) (by intro y;rw [Bool.eq_iff_iff];simp;omega),h3] at h2
 have h4:S.filter (fun s=>decide (s=x))=[x]:=by
  refine Qeb (List.Pairwise.filter _ hS) (by simp [Srt]) fun y => ?_
  rw [List.mem_filter,List.mem_singleton,decide_eq_true_eq]
  exact ⟨fun h=>h.2,fun h=>⟨h▸hn,h⟩⟩
 rw [h4] at h2
 rw [h2] at h1
 exact h1
theorem QhA (S:List Nat) (v:Nat):(ahd S v).length=pos S v:=by unfold ahd pos;rw [List.countP_eq_length_filter]
theorem Qsf {a:List S38} {S:List Nat} {v:Nat} (hv:v<a.length) (hn:v∉S):pos S v+(wth a S v).length=pos S (Qbi a v):=by
 have he:=Qd5 hv
 unfold wth pos
 rw [←List.countP_eq_length_filter]
 refine Qe5 fun s hs => ?_
 have:s≠v:=fun e=>hn (e▸hs)
 refine ⟨?_, ?_⟩
 ·rw [Bool.eq_iff_iff];simp;omega
 ·simp;omega
theorem Qox {a:List S38} {S:List Nat} (hS:Srt S) {x:Nat} (hv:x<a.length) (hn:x∈S):pos S x+1+(wth a S x).length=pos S (Qbi a x):=by
 have he:=Qd5 hv
 have h1:pos S (x+1)=pos S x+1:=by
  unfold pos
  rw [←Qiu hS hn (q:=fun s=>decide (s<x)) (by simp)]
  congr 1;funext s;rw [Bool.eq_iff_iff];simp;omega
 rw [←h1]
 unfold wth pos
 rw [←List.countP_eq_length_filter]
 refine Qe5 fun s hs=>⟨?_, ?_⟩
 ·rw [Bool.eq_iff_iff];simp;omega
 ·simp;omega
theorem Qma {S:List Nat} (hS:Srt S) {k:Nat} (hk:k<S.length):pos S (S.getD k 0)=k:=by
 rcases Nat.lt_trichotomy (pos S (S.getD k 0)) k with c|c|c
 ·have h1:pos S (S.getD k 0)<S.length:=by omega
  have h2:=Qes hS c hk
  have:=(Qcq hS h1).1 h2
  omega
 ·exact c
 ·have:=(Qcq hS hk).2 c;omega
theorem Qdh {S:List Nat} (hS:Srt S) {x:Nat} (hx:x∈S):pos S x<S.length∧S.getD (pos S x) 0=x:=by
 obtain ⟨k,hk,rfl⟩:=Qdx hx
 rw [Qma hS hk];exact ⟨hk,rfl⟩
def del (S:List Nat) (x:Nat):List Nat:=S.filter fun s=>decide (s≠x)
def ins (S:List Nat) (v:Nat):List Nat:=ahd S v++v::S.filter fun s=>decide (v≤s)
theorem Qw2 {a:List S38} {S:List Nat} (hS:Srt S) {x:Nat} (hx:x<a.length):del S x=ahd S x++(wth a S x++bhd a S x):=by
 have he:=Qd5 hx
 have h1:=QbL x (S:=del S x) (List.Pairwise.filter _ hS)
 have h2:=QbL (Qbi a x) (S:=(del S x).filter fun s=>decide (x≤s)) (List.Pairwise.filter _ (List.Pairwise.filter _ hS))
 unfold del at *
 rw [QeA (r:=fun s=>decide (s<x)) (by intro y;rw [Bool.eq_iff_iff];simp;omega)] at h1
 rw [QeA (r:=fun s=>decide (x<s)) (by intro y;rw [Bool.eq_iff_iff];simp;omega)] at h1 h2
 rw [QeA (r:=fun s=>decide (x<s∧s<Qbi a x)) (by intro y;rw [Bool.eq_iff_iff];simp;omega),QeA (r:=fun s=>decide (Qbi a x≤s)) (by intro y;rw [Bool.eq_iff_iff];simp;omega)] at h2
 rw [h2] at h1
 exact h1
theorem Qri {a:List S38} {S:List Nat} (hS:Srt S) {v:Nat} (hv:v<a.length) (hn:v∉S):ins S v=ahd S v++v::(wth a S v++bhd a S v):=by
 have h1:=Qoj hS hv hn
 have h2:=QbL v hS
 unfold ins
 have:S.filter (fun s=>decide (v≤s))=wth a S v++bhd a S v:=by
  have e:ahd S v++S.filter (fun s=>decide (v≤s))=ahd S v++(wth a S v++bhd a S v):=by rw [←h1];exact h2.symm
  exact List.append_cancel_left e
 rw [this]
theorem QiW {S:List Nat} {x y:Nat} : y∈del S x↔y∈S∧y≠x:=by unfold del;rw [List.mem_filter,decide_eq_true_eq]
theorem QiV {S:List Nat} {v y:Nat} : y∈ins S v↔y∈S∨y=v:=by
 unfold ins ahd
 rw [List.mem_append,List.mem_cons,List.mem_filter,List.mem_filter,decide_eq_true_eq,decide_eq_true_eq]
 constructor
 ·rintro (h|h|h)
  ·exact .inl h.1
  ·exact .inr h
  ·exact .inl h.1
 ·rintro (h|h)
  ·rcases Nat.lt_or_ge y v with c|c
   ·exact .inl ⟨h,c⟩
   ·exact .inr (.inr ⟨h,c⟩)
  ·exact .inr (.inl h)
theorem Sub.del {n:Nat} {S:List Nat} (h:Sub n S) {x:Nat} (h0:x≠0):Sub n (del S x):=⟨List.Pairwise.filter _ h.1,fun y hy=>h.2.1 y (QiW.1 hy).1,QiW.2 ⟨h.2.2,fun e=>h0 e.symm⟩⟩
theorem Sub.ins {n:Nat} {S:List Nat} (h:Sub n S) {v:Nat} (hv:v<n) (hn:v∉S):Sub n (ins S v):=by
 refine ⟨?_,fun y hy => ?_,QiV.2 (.inl h.2.2)⟩
 ·unfold Srt X.ins ahd
  rw [List.pairwise_append,List.pairwise_cons]
  refine ⟨List.Pairwise.filter _ h.1,⟨fun y hy => ?_,List.Pairwise.filter _ h.1⟩,fun y hy z hz => ?_⟩
  ·rw [List.mem_filter,decide_eq_true_eq] at hy
   have:y≠v:=fun e=>hn (e▸hy.1)
   omega
  ·rw [List.mem_filter,decide_eq_true_eq] at hy
   rcases List.mem_cons.1 hz with e|hz
   ·omega
   ·rw [List.mem_filter,decide_eq_true_eq] at hz;omega
 ·rcases QiV.1 hy with c|c
  ·exact h.2.1 y c
  ·rw [c];exact hv
end Go.Proofs.YtallpjhkmcgpoaaGreat.X
end
section
namespace Go.Proofs.YtallpjhkmcgpoaaGreat.X
open Go Go.RowKit Go.Proofs.YtallpjhkmcgpoaaGreat.V Go.Proofs.YtallpjhkmcgpoaaGreat.P
theorem Qef {α:Type} (p:α→Bool):∀ (l:List α) (n:Nat),B.idxFrom p l n≥0→∃ k,B.idxFrom p l n=((n+k:Nat):Int)∧∃ h:k<l.length,p l[k]=true
 | [],n,h=>by simp [B.idxFrom] at h
 | x::l,n,h=>by
  simp only [B.idxFrom] at h ⊢
  by_cases c:p x=true
  ·rw [if_pos c];exact ⟨0,by simp,by simp,by simpa using c⟩
  ·rw [if_neg c] at h ⊢
   obtain ⟨k,h1,h2,h3⟩:=Qef p l (n+1) h
   exact ⟨k+1,by rw [h1];omega,by simp;omega,by simpa using h3⟩
theorem QgC (l:List S38):∀ (ps:List Int) (i:Nat) (p:Int) {j:Nat}, QdJ l i ps=(j:Int)→QdJ l i (ps++[p])=if 0≤p∧p<((QbV l j).length:Int) then (((QbV l j).getD p.toNat 0:Nat):Int) else -1
 | [],i,p,j,h=>by
  simp only [QdJ] at h
  obtain rfl:i=j:=by omega
  simp only [List.nil_append,QdJ]
 | q::ps,i,p,j,h=>by
  simp only [QdJ,List.cons_append] at h ⊢
  by_cases c:0≤q∧q<((QbV l i).length:Int)
  ·rw [if_pos c] at h ⊢; exact QgC l ps _ p h
  ·rw [if_neg c] at h;omega
theorem QjB {l:List S38} (h:okT l=true) {i:Nat} (hi:i<l.length) (h0:i≠0):∃ r:Nat,QoY l i=(r:Int)∧r<(QbV l (QbJ l i)).length∧(QbV l (QbJ l i)).getD r 0=i:=by
 have hr:=QsR h hi h0
 unfold QoY at hr ⊢
 obtain ⟨k,h1,h2,h3⟩:=Qef _ _ _ hr
 rw [List.length_map] at h2
 refine ⟨k,by rw [h1];omega,h2, ?_⟩
 rw [decide_eq_true_eq,List.getElem_map] at h3
 rw [B.getD_lt h2];omega
theorem Qmt {l:List S38} (h:okT l=true):∀ i,i<l.length→QdJ l 0 (QcN l i)=(i:Int):=by
 intro i
 induction i using Nat.strongRecOn with
 | _ i ih =>
  intro hi
  by_cases h0:i=0
  ·subst h0;rfl
  ·have hp:=(Qc6 h hi h0).2
   obtain ⟨r,r1,r2,r3⟩:=QjB h hi h0
   rw [QeX h hi h0,QgC l _ _ _ (ih _ hp (by omega)),r1,if_pos ⟨by omega,by omega⟩,Int.toNat_natCast,r3]
theorem QiT {l:List S38} (h:okT l=true) {i:Nat} (hi:i<l.length):QbO l (QcN l i)=(i:Int):=by
 unfold QbO;rw [if_pos h];exact Qmt h i hi
theorem Qmd {l:List S38} (h:okT l=true):∀ i,i<l.length→((QcN l i).length:Int)=dep l i∧∀ p∈QcN l i,0≤p∧p≤24:=by
 intro i
 induction i using Nat.strongRecOn with
 | _ i ih =>
  intro hi
  by_cases h0:i=0
  ·subst h0
   exact ⟨by have:=(Qcd h hi).2.2.1.2 rfl;rw [this];rfl,fun p hp=>by cases hp⟩
  ·have hp:=(Qc6 h hi h0).2
   obtain ⟨r,r1,r2,_⟩:=QjB h hi h0
   obtain ⟨e1,e2⟩:=ih _ hp (by omega)
   have hk:=QfU h hi h0
   unfold QbV QgE at hk
   rw [List.mem_filter,decide_eq_true_eq] at hk
   have hl:=(QaT h).2
   have hkl:=Qdy l (show QbJ l i<l.length by omega)
   rw [QeX h hi h0]
   refine ⟨by rw [List.length_append,List.length_singleton];omega,fun p hp => ?_⟩
   rcases List.mem_append.1 hp with c|c
   ·exact e2 p c
   ·rw [List.mem_singleton] at c;omega
def nI (S:List Nat):List Int:=S.map fun (x:Nat)=>(x:Int)
theorem QcK (S:List Nat):(nI S).length=S.length:=List.length_map _
theorem Qmw {S:List Nat} {i:Nat} (h:i<S.length):rd (nI S) (i:Int)=((S.getD i 0:Nat):Int):=by
 have:=QfL (K:=S) (p:=(i:Int)) (by omega) (by omega)
 rw [Int.toNat_natCast] at this
 exact this
theorem QnJ (xs:List Int) (y:Int) (hl:xs.length≤4194304):∀ (n p:Nat),p+n=xs.length→(∀ j,j<p→xs.getD j 0≠y)→B.Ev (fun k=>Qq.l0 k xs y (xs.length:Int) (p:Int)) (B.idxFrom (fun x=>decide (x=y)) (xs.drop p) p):=by
 intro n
 induction n with
 | zero =>
  intro p hp _
  refine B.Ev.succ ?_
  simp only [Qq.l0,show ¬((p:Int)<(xs.length:Int)) by omega, ↓reduceIte]
  exact (B.Ev.pure _).eq (by rw [List.drop_eq_nil_of_le (by omega)];rfl)
 | succ n ih =>
  intro p hp hn
  have hlt:p<xs.length:=by omega
  refine B.Ev.succ ?_
  rw [B.idxFrom_drop _ _ hlt]
  simp only [Qq.l0,show (p:Int)<(xs.length:Int) by omega,show 0≤(p:Int) by omega, ↓reduceIte,QsQ,B.wsucc (show p<9223372036854775807 by omega),decide_eq_true_eq]
  by_cases c:xs[p]=y
  ·simp only [c,B.getD_lt hlt, ↓reduceIte];exact B.Ev.pure _
  ·have c':¬y=xs.getD p 0:=fun e=>c (by rw [e,B.getD_lt hlt])
   simp only [c,c', ↓reduceIte]
   exact ih (p+1) (by omega) fun j hj=>by
    rcases Nat.lt_or_ge j p with d|d
    ·exact hn j d
    ·obtain rfl:j=p:=by omega
     exact fun e=>c' e.symm
theorem Qm8 {S:List Nat} (hS:Srt S) {x:Nat} (hx:x∈S):B.idxFrom (fun y=>decide (y=(x:Int))) (nI S) 0=(pos S x:Int):=by
 have ha:=B.idxFrom_any (fun y=>decide (y=(x:Int))) (nI S) 0
 have hg:B.idxFrom (fun y=>decide (y=(x:Int))) (nI S) 0≥0:=by
  refine of_decide_eq_true ?_
  rw [ha,List.any_eq_true]
  exact ⟨(x:Int),List.mem_map.2 ⟨x,hx,rfl⟩,by simp⟩
 obtain ⟨k,h1,h2,h3⟩:=Qef _ _ _ hg
 have h2':k<S.length:=by rw [QcK] at h2;exact h2
 have e:S.getD k 0=x:=by
  have q:=Qmw h2'
  rw [QsQ,B.getD_lt h2,of_decide_eq_true h3] at q
  omega
 rw [h1]
 rw [Nat.zero_add, ←e,Qma hS h2']
theorem Qv7 {S:List Nat} {x:Nat} (hx:x∉S):B.idxFrom (fun y=>decide (y=(x:Int))) (nI S) 0<0:=by
 have ha:=B.idxFrom_any (fun y=>decide (y=(x:Int))) (nI S) 0
 have:(nI S).any (fun y=>decide (y=(x:Int)))=false:=by
  rw [List.any_eq_false]
  intro y hy
  obtain ⟨z,hz,rfl⟩:=List.mem_map.1 hy
  rw [decide_eq_true_eq]
  intro e
  exact hx (by have:z=x:=by omega
               rw [←this];exact hz)
 rw [this,decide_eq_false_iff_not] at ha
 omega
theorem QpJ {S:List Nat} (hS:Srt S) (hl:S.length≤4194304) {x:Nat} (hx:x∈S):B.Ev (fun k=>Qq.f k (nI S) (x:Int)) (pos S x:Int):=by
 have:=QnJ (nI S) (x:Int) (by rw [QcK];exact hl) (nI S).length 0 (by omega) (fun j hj=>absurd hj (Nat.not_lt_zero _))
 rw [List.drop_zero,Qm8 hS hx] at this
 exact this
theorem QpU {S:List Nat} (hS:Srt S) {x:Nat} (hx:x∈S):S.take (pos S x)++S.drop (pos S x+1)=del S x:=by
 have h1:=QbL x hS
 have h2:=QbL (x+1) (S:=S.filter fun s=>decide (x≤s)) (List.Pairwise.filter _ hS)
 rw [QeA (r:=fun s=>decide (s=x)) (by intro y;rw [Bool.eq_iff_iff];simp;omega),QeA (r:=fun s=>decide (x+1≤s)) (by intro y;rw [Bool.eq_iff_iff];simp;omega)] at h2
 have h4:S.filter (fun s=>decide (s=x))=[x]:=by
  refine Qeb (List.Pairwise.filter _ hS) (by simp [Srt]) fun y => ?_
  rw [List.mem_filter,List.mem_singleton,decide_eq_true_eq]
  exact ⟨fun h=>h.2,fun h=>⟨h▸hx,h⟩⟩
 rw [h2,h4] at h1
 have hd:del S x=ahd S x++S.filter fun s=>decide (x+1≤s):=by
  have g1:=QbL x (S:=del S x) (List.Pairwise.filter _ hS)
  unfold del at *
  rw [QeA (r:=fun s=>decide (s<x)) (by intro y;rw [Bool.eq_iff_iff];simp;omega),QeA (r:=fun s=>decide (x+1≤s)) (by intro y;rw [Bool.eq_iff_iff];simp;omega)] at g1
  exact g1
 rw [hd, ←QhA]
 have e:S=ahd S x++([x]++S.filter fun s=>decide (x+1≤s)):=h1
 generalize hA:ahd S x=A at *
 generalize (S.filter fun s=>decide (x+1≤s))=R at *
 rw [e]
 congr 1
 ·exact List.take_left' rfl
 ·rw [←List.append_assoc];exact List.drop_left' (by simp)
theorem Qj2 {S:List Nat} (hS:Srt S) (v:Nat):S.take (pos S v)++[v]++S.drop (pos S v)=ins S v:=by
 have h1:=QbL v hS
 unfold ins
 rw [←QhA]
 have e:S=ahd S v++S.filter fun s=>decide (v≤s):=h1
 generalize hA:ahd S v=A at *
 generalize (S.filter fun s=>decide (v≤s))=R at *
 rw [e,List.append_assoc,List.take_left' rfl,List.drop_left' rfl];rfl
section
variable {a:List S38} {f:Nat→Int} {S:List Nat}
theorem Qit (h:okT a=true) (hS:Sub a.length S) (hf:∀ x∈S,0≤f x∧f x≤5) {x:Nat} (hx:x∈S):QbO (cut a f S) (QcN (cut a f S) (pos S x))=(pos S x:Int) :=
 QiT (QdQ h hS hf) (by rw [Qa1];exact (Qdh hS.1 hx).1)
theorem Qr6 (h:okT a=true) (hS:Sub a.length S) (hf:∀ x∈S,0≤f x∧f x≤5) {x:Nat} (hx:x∈S) (h0:x≠0) (label from_ count:Int) :
 apN (cut a f S) 2 label from_ count (QcN (cut a f S) (pos S x))=(cut a f (del S x),0):=by
 obtain ⟨p1,p2⟩:=Qdh hS.1 hx
 have hp:pos S x≠0:=fun e=>by
  obtain ⟨T,eT,_⟩:=hS.ne
  rw [e,eT] at p2;exact h0 p2.symm
 have hxl:=hS.2.1 x hx
 unfold apN
 rw [if_pos (QdQ h hS hf),Qit h hS hf hx]
 have hc:QcB (cut a f S) 2 label from_ count (pos S x:Int)=(0,0,0):=by
  simp only [QcB,show ((1:Int)≤2∧(2:Int)≤3) by decide,show ¬((pos S x:Int)<0) by omega,show ¬((pos S x:Int)=0) by omega,and_self, ↓reduceIte]
 rw [hc]
 simp only [↓reduceIte,show ¬((2:Int)=1) by decide,Int.toNat_natCast]
 rw [Qn2 h hS p1,p2, ←Qox hS.1 hxl hx, ←QhA]
 have e:=QtS hS.1 hxl hx
 have he:=Qd5 hxl
 have:=QtI (a:=a) (f:=f) (A:=ahd S x) (M:=wth a S x) (T:=bhd a S x) (x:=x) (fun y hy=>by unfold ahd at hy;rw [List.mem_filter,decide_eq_true_eq] at hy;exact hy.2)
  (fun y hy=>by unfold wth at hy;rw [List.mem_filter,decide_eq_true_eq] at hy;exact hy.2) (fun y hy=>by unfold bhd at hy;rw [List.mem_filter,decide_eq_true_eq] at hy;exact hy.2)
 rw [←e, ←Qw2 hS.1 hxl] at this
 rw [this]
def upd (f:Nat→Int) (x:Nat) (c:Int):Nat→Int:=fun y=>if y=x then c else f y
theorem Qr4 (h:okT a=true) (hS:Sub a.length S) (hf:∀ x∈S,0≤f x∧f x≤5) {x:Nat} (hx:x∈S) {label:Int} (hl:0≤label∧label≤5) (from_ count:Int) :
 apN (cut a f S) 1 label from_ count (QcN (cut a f S) (pos S x))=(cut a (upd f x label) S,0):=by
 obtain ⟨p1,p2⟩:=Qdh hS.1 hx
 unfold apN
 rw [if_pos (QdQ h hS hf),Qit h hS hf hx]
 have hc:QcB (cut a f S) 1 label from_ count (pos S x:Int)=(0,0,0):=by
  simp only [QcB,show ((1:Int)≤1∧(1:Int)≤3) by decide,show ¬((pos S x:Int)<0) by omega,show ¬((1:Int)=2) by decide,show ¬((1:Int)=3) by decide,hl,and_self, ↓reduceIte]
 rw [hc]
 simp only [↓reduceIte,Int.toNat_natCast,Prod.mk.injEq,and_true]
 rw [QcI p1,p2]
 apply List.ext_getElem
 ·rw [List.length_set,Qa1,Qa1]
 ·intro i h1 h2
  rw [Qa1] at h2
  rw [List.getElem_set]
  unfold cut at *
  rw [List.getElem_map,List.getElem_map]
  have g:S[i]=S.getD i 0:=(B.getD_lt h2).symm
  by_cases c:pos S x=i
  ·rw [if_pos c]
   subst c
   rw [g,p2];unfold upd;rw [if_pos rfl]
  ·rw [if_neg c]
   have:S[i]≠x:=fun e=>c (by rw [←e,g,Qma hS.1 h2])
   unfold upd;rw [if_neg this]
end
end Go.Proofs.YtallpjhkmcgpoaaGreat.X
end
section
namespace Go.Proofs.YtallpjhkmcgpoaaGreat.X
open Go Go.RowKit Go.Proofs.YtallpjhkmcgpoaaGreat.V Go.Proofs.YtallpjhkmcgpoaaGreat.P
theorem QiG:∀ {K:List Nat} {E t:Nat}, (K++[E]).Pairwise (· < ·)→t∈K++[E]→(K++[E]).getD (K.countP fun s=>decide (s<t)) 0=t
 | [],E,t,_,ht=>by
  rw [List.nil_append,List.mem_singleton] at ht
  subst ht;rfl
 | x::K,E,t,h,ht=>by
  rw [List.cons_append] at h ht ⊢
  obtain ⟨h1,h2⟩:=List.pairwise_cons.1 h
  rw [List.countP_cons]
  rcases List.mem_cons.1 ht with c|c
  ·subst c
   have:K.countP (fun s=>decide (s<t))=0:=by
    rw [List.countP_eq_zero];intro s hs
    have:=h1 s (List.mem_append_left _ hs);simp;omega
   rw [this,if_neg (by simp)];rfl
  ·have:=h1 t c
   rw [if_pos (by simpa using this),List.getD_cons_succ]
   exact QiG h2 c
theorem Qpe {l:List S38} {k j:Nat} (hk:k<l.length):j∈QbV l k↔k<j∧j<Qbi l k∧dep l j=dep l k+1:=by
 have:=Qbo l hk
 unfold QbV QgE
 rw [List.mem_filter,List.mem_range'_1,decide_eq_true_eq]
 constructor
 ·rintro ⟨h1,h2⟩;exact ⟨by omega,by omega,h2⟩
 ·rintro ⟨h1,h2,h3⟩;exact ⟨by omega,h3⟩
section
variable {a:List S38} {f:Nat→Int} {S:List Nat}
theorem Qo3 (S:List Nat) {t u:Nat} (h:t≤u):pos S t≤pos S u:=List.countP_mono_left fun s _ hs=>by rw [decide_eq_true_eq] at *; omega
theorem Qjp (h:okT a=true) (hS:Sub a.length S) {p t:Nat} (hp:p∈S) (h1:p<t) (h2:t≤Qbi a p) (hb:∀ s∈S,p<s→s<t→∀ y∈S,t≤y→up a s y=false) :
 pos S t∈QbY (cut a f S) (pos S p):=by
 obtain ⟨k1,k2⟩:=Qdh hS.1 hp
 have hpl:=hS.2.1 p hp
 have hk:pos S p<(cut a f S).length:=by rw [Qa1];exact k1
 have he:=Qn2 (f:=f) h hS k1
 rw [k2] at he
 have g1:pos S p<pos S t:=(Qcq hS.1 k1).1 (by rw [k2];exact h1)
 have g2:=Qo3 S h2
 unfold QbY
 rw [List.mem_append,List.mem_singleton,he]
 rcases Nat.lt_or_ge (pos S t) (pos S (Qbi a p)) with c|c
 ·left
  have g3:pos S t<S.length:=Nat.lt_of_lt_of_le c (QhX _ _)
  have hy:S.getD (pos S t) 0∈S:=Qbt g3
  have y1:=(Qcq hS.1 g3).2 c
  have y2:¬S.getD (pos S t) 0<t:=fun q=>by have:=(Qcq hS.1 g3).1 q;omega
  generalize hyy:S.getD (pos S t) 0=y at *
  have hu:up a p y=true:=QbQ.2 ⟨by omega,y1⟩
  rw [Qpe hk,he,QcI g3,QcI k1,k2,hyy]
  refine ⟨g1,c, ?_⟩
  have:dpt a S y=dpt a S p+1:=by
   unfold dpt
   rw [←Qiu hS.1 hp (q:=fun s=>up a s p) (by unfold up;simp)]
   refine List.countP_congr fun s hs => ?_
   rw [Bool.or_eq_true,decide_eq_true_eq]
   constructor
   ·intro hsy
    rcases Nat.lt_trichotomy s p with d|d|d
    ·exact .inl (Qqa hsy hu d)
    ·exact .inr d
    ·exfalso
     have hs2:s<t:=by
      obtain ⟨j,hj,rfl⟩:=Qdx hs
      have hlt:=(QbQ.1 hsy).1
      have:j<pos S t:=by
       rcases Nat.lt_trichotomy j (pos S t) with e|e|e
       ·exact e
       ·subst e;omega
       ·have:=Qes hS.1 e hj;omega
      exact (Qcq hS.1 hj).2 this
     rw [hb s hs d hs2 y hy (by omega)] at hsy;cases hsy
   ·rintro (d|d)
    ·exact Qsl (hS.2.1 y hy) d hu
    ·rw [d];exact hu
  omega
 ·right;omega
variable {v:Nat}
theorem Qo5 (h:okT a=true) (hv:v<a.length) (h0:v≠0) (hn:v∉S):(∀ s∈S,QbJ a v<s→s<v→∀ y∈S,v≤y→up a s y=false)∧(∀ s∈S,QbJ a v<s→s<Qbi a v→∀ y∈S,Qbi a v≤y→up a s y=false):=by
 have key:∀ s,QbJ a v<s→s<v→∀ y,v<y→up a s y=false:=fun s h1 h2 y h3=>by
  rw [Bool.eq_false_iff]
  intro hu
  have hu':=QbQ.1 hu
  have:up a s v=true:=QbQ.2 ⟨h2,by omega⟩
  rw [Qp9 h hv h0,Bool.or_eq_true,decide_eq_true_eq] at this
  rcases this with e|e
  ·omega
  ·have:=QbQ.1 e;omega
 refine ⟨fun s hs h1 h2 y hy h3=>key s h1 h2 y ?_,fun s hs h1 h2 y hy h3 => ?_⟩
 ·have:y≠v:=fun e=>hn (e▸hy)
  omega
 ·have hne:s≠v:=fun e=>hn (e▸hs)
  have he:=Qd5 hv
  rcases Nat.lt_or_ge s v with c|c
  ·exact key s h1 c y (by omega)
  ·rw [Bool.eq_false_iff]
   intro hu
   have:=QbQ.1 hu
   have:=QdO a (show s<a.length by omega) (show v<s by omega) h2
   omega
theorem QuH (h:okT a=true) (hS:Sub a.length S) (hv:v<a.length) (h0:v≠0) (hn:v∉S) (hp:QbJ a v∈S) :
 (QbY (cut a f S) (pos S (QbJ a v))).getD ((QbV (cut a f S) (pos S (QbJ a v))).countP fun j=>decide (S.getD j 0<v)) 0=pos S v ∧
 (QbY (cut a f S) (pos S (QbJ a v))).getD ((QbV (cut a f S) (pos S (QbJ a v))).countP fun j=>decide (S.getD j 0<Qbi a v)) 0=pos S (Qbi a v):=by
 obtain ⟨k1,k2⟩:=Qdh hS.1 hp
 have hk:pos S (QbJ a v)<(cut a f S).length:=by rw [Qa1];exact k1
 have hkid:=Qdz a (show QbJ a v<a.length from hS.2.1 _ hp) (QfU h hv h0)
 have he:=Qd5 hv
 have hin:=QdO a hv hkid.1 hkid.2.1
 obtain ⟨b1,b2⟩:=Qo5 (S:=S) h hv h0 hn
 have m1:=Qjp (f:=f) h hS hp hkid.1 (by omega) b1
 have m2:=Qjp (f:=f) h hS hp (t:=Qbi a v) (by omega) hin b2
 have hs:=Qfe (cut a f S) hk
 have cg:∀ t,(QbV (cut a f S) (pos S (QbJ a v))).countP (fun j=>decide (S.getD j 0<t))=(QbV (cut a f S) (pos S (QbJ a v))).countP fun j=>decide (j<pos S t):=fun t=>by
  refine List.countP_congr fun j hj => ?_
  have:=(Qdz _ hk hj).2.2
  rw [Qa1] at this
  rw [decide_eq_true_eq,decide_eq_true_eq]
  exact Qcq hS.1 this
 unfold QbY at *
 rw [cg,cg]
 exact ⟨QiG hs m1,QiG hs m2⟩
theorem Qn3 (hn:v∉S) {K:List Nat} (hK:∀ j∈K,j<S.length) (hv:v<a.length) :
 K.countP (fun j=>decide (S.getD j 0<v))+K.countP (fun j=>up a v (S.getD j 0))=K.countP fun j=>decide (S.getD j 0<Qbi a v):=by
 have he:=Qd5 hv
 refine Qe5 fun j hj => ?_
 have:S.getD j 0≠v:=fun e=>hn (e▸Qbt (hK j hj))
 generalize S.getD j 0=y at *
 unfold up
 refine ⟨?_, ?_⟩
 ·rw [Bool.eq_iff_iff];simp;omega
 ·simp;omega
theorem Qkp {l:List S38} {D:Int} : ∀ (n j:Nat) (d:Int),d≤D→(∀ g,j≤g→g<j+n→dep l g+1≤D)→Qe4 l n j d≤D
 | 0,j,d,h,_=>h
 | n+1,j,d,h,hg=>by
  simp only [Qe4]
  refine Qkp n (j+1) _ ?_ fun g g1 g2=>hg g (by omega) (by omega)
  have:=hg j (Nat.le_refl _) (by omega)
  unfold mx;split <;> omega
theorem Qr5 (h:okT a=true) (hS:Sub a.length S) (hf:∀ x∈S,0≤f x∧f x≤5) (hv:v<a.length) (h0:v≠0) (hn:v∉S) (hp:QbJ a v∈S) (hfv:0≤f v∧f v≤5) :
 QcB (cut a f S) 3 (f v) ((QbV (cut a f S) (pos S (QbJ a v))).countP (fun j=>decide (S.getD j 0<v)):Nat) ((QbV (cut a f S) (pos S (QbJ a v))).countP (fun j=>up a v (S.getD j 0)):Nat) (pos S (QbJ a v):Int)=(0,(pos S v:Int),(pos S (Qbi a v):Int)) ∧
 apN (cut a f S) 3 (f v) ((QbV (cut a f S) (pos S (QbJ a v))).countP (fun j=>decide (S.getD j 0<v)):Nat) ((QbV (cut a f S) (pos S (QbJ a v))).countP (fun j=>up a v (S.getD j 0)):Nat) (QcN (cut a f S) (pos S (QbJ a v)))=(cut a f (ins S v),0):=by
 obtain ⟨k1,k2⟩:=Qdh hS.1 hp
 have hk:pos S (QbJ a v)<(cut a f S).length:=by rw [Qa1];exact k1
 have hK:∀ j∈QbV (cut a f S) (pos S (QbJ a v)),j<S.length:=fun j hj=>by have:=(Qdz _ hk hj).2.2;rw [Qa1] at this;exact this
 obtain ⟨s1,s2⟩:=QuH (f:=f) h hS hv h0 hn hp
 have hsum:=Qn3 (a:=a) hn hK hv
 have hle:=List.countP_le_length (p:=fun j=>decide (S.getD j 0<Qbi a v)) (l:=QbV (cut a f S) (pos S (QbJ a v)))
 have hS':=hS.ins hv hn
 have hlen:S.length<24:=by
  have h1:=Qds hS'.1 hS'.2.1
  have h2:=(QaT h).2
  have h3:(ins S v).length=S.length+1:=by
   have:=Qj2 hS.1 v
   rw [←this,List.length_append,List.length_append,List.length_take,List.length_drop,List.length_singleton]
   have:=QhX S v
   omega
  omega
 have hdi:∀ y,dpt a (ins S v) y=dpt a S y+if up a v y=true then 1 else 0:=fun y=>by
  have e:=Qoj hS.1 hv hn
  conv=>rhs;rw [e]
  rw [Qri hS.1 hv hn,Qe3,Qht,Qe3 a (ahd S v)];omega
 have hdv:dpt a S v=dpt a S (QbJ a v)+1:=QnR h hS.1 hv h0 hp
 have hdeep:Qe4 (cut a f S) (pos S (Qbi a v)-pos S v) (pos S v) (dep (cut a f S) (pos S (QbJ a v))+1)≤12:=by
  refine Qkp _ _ _ ?_ fun g g1 g2 => ?_
  ·rw [QcI k1,k2]
   have:=QnS h hS'.1 hS'.2.1 hv
   rw [hdi] at this
   omega
  ·have hgl:g<S.length:=by have:=QhX S (Qbi a v);omega
   have hy:S.getD g 0∈S:=Qbt hgl
   have y1:=(Qcq hS.1 hgl).2 (show g<pos S (Qbi a v) by omega)
   have y2:¬S.getD g 0<v:=fun q=>by have:=(Qcq hS.1 hgl).1 q;omega
   have y3:S.getD g 0≠v:=fun e=>hn (e▸hy)
   rw [QcI hgl]
   have:=QnS h hS'.1 hS'.2.1 (hS.2.1 _ hy)
   rw [hdi,if_pos (QbQ.2 ⟨by omega,y1⟩)] at this
   omega
 generalize hc1:(QbV (cut a f S) (pos S (QbJ a v))).countP (fun j=>decide (S.getD j 0<v))=c1 at *
 generalize hc2:(QbV (cut a f S) (pos S (QbJ a v))).countP (fun j=>up a v (S.getD j 0))=c2 at *
 have hcode:QcB (cut a f S) 3 (f v) (c1:Int) (c2:Int) (pos S (QbJ a v):Int)=(0,(pos S v:Int),(pos S (Qbi a v):Int)):=by
  have e2:((c1:Int)+(c2:Int)).toNat=c1+c2:=by omega
  simp only [QcB,show ((1:Int)≤3∧(3:Int)≤3) by decide,show ¬((pos S (QbJ a v):Int)<0) by omega,show ¬((3:Int)=2) by decide,hfv,and_self, ↓reduceIte,Int.toNat_natCast,show (0:Int)≤(c1:Int)∧(c1:Int)≤((QbV (cut a f S) (pos S (QbJ a v))).length:Int) by omega,show (0:Int)≤(c2:Int)∧(c2:Int)≤((QbV (cut a f S) (pos S (QbJ a v))).length:Int)-(c1:Int) by omega,e2,s1,hsum,s2,Qot]
  rw [if_neg (by rw [Qa1];omega),if_neg (by omega)]
 refine ⟨hcode, ?_⟩
 unfold apN
 rw [if_pos (QdQ h hS hf),Qit h hS hf hp,hcode]
 simp only [↓reduceIte,show ¬((3:Int)=1) by decide,show ¬((3:Int)=2) by decide,Int.toNat_natCast,Prod.mk.injEq,and_true]
 rw [QcI k1,k2,show ((dpt a S (QbJ a v):Int)+1)=(dpt a S v:Int) by omega]
 have e:=Qoj hS.1 hv hn
 have:=QtH (a:=a) (f:=f) (A:=ahd S v) (M:=wth a S v) (T:=bhd a S v) (v:=v) (fun y hy=>by unfold ahd at hy;rw [List.mem_filter,decide_eq_true_eq] at hy;exact hy.2)
  (fun y hy=>by unfold wth at hy;rw [List.mem_filter,decide_eq_true_eq] at hy;exact hy.2) (fun y hy=>by unfold bhd at hy;rw [List.mem_filter,decide_eq_true_eq] at hy;exact hy.2)
 rw [←e, ←Qri hS.1 hv hn,QhA,Qsf hv hn] at this
 exact this
end
end Go.Proofs.YtallpjhkmcgpoaaGreat.X
end
section
namespace Go.Proofs.YtallpjhkmcgpoaaGreat.X
open Go Go.RowKit Go.Proofs.YtallpjhkmcgpoaaGreat.V Go.Proofs.YtallpjhkmcgpoaaGreat.P
theorem QBi {α:Type} (pre:List α) (x:α) (rest:List α):(pre++[x])++rest=pre++x::rest:=by simp
theorem QsP (pre:List S67) (x:S67) (rest:List S67):QaU (pre++x::rest) (pre.length:Int)=x:=by
 unfold QaU;rw [Int.toNat_natCast,B.getD_lt (by simp)]
 simp
def PIn (l:List S67):Prop:=l.length≤4194304∧∀ o∈l,o.f1.length≤4194304
def QhZ (l:List Int):Bool:=l.all fun x=>decide (0≤x∧x≤24)
theorem QyC (pre:List Int) (x:Int) (rest:List Int):rd (pre++x::rest) (pre.length:Int)=x:=by
 unfold rd;rw [Int.toNat_natCast,B.getD_lt (by simp)]
 simp
def okO (o:S67):Bool:=(QhZ o.f1 && decide (o.f1.length≤12)) && (if o.f0=1 then (decide (0≤o.f2∧o.f2≤5) && (decide (o.f3=0) && (o.f4 == 0))) else if o.f0=2 then (decide (o.f2=0) && (decide (o.f3=0) && (o.f4 == 0))) else if o.f0=3 then (decide (0≤o.f2∧o.f2≤5) && (decide (0≤o.f3∧o.f3≤24) && decide (0≤o.f4∧o.f4≤24))) else false)
end Go.Proofs.YtallpjhkmcgpoaaGreat.X
end
section
namespace Go.Proofs.YtallpjhkmcgpoaaGreat.X
open Go Go.RowKit Go.Proofs.YtallpjhkmcgpoaaGreat.V Go.Proofs.YtallpjhkmcgpoaaGreat.P
def mA (m:List S40):List Nat:=m.map fun p=>p.f0.toNat
def mB (m:List S40):List Nat:=m.map fun p=>p.f1.toNat
theorem Qs4 {m:List S40} {i:Nat} (h:i<m.length):(mA m).getD i 0=(pA m i).toNat:=by
 unfold mA pA;rw [B.getD_lt (by simpa using h),List.getElem_map,B.getD_lt h]
theorem Qs3 {m:List S40} {i:Nat} (h:i<m.length):(mB m).getD i 0=(pB m i).toNat:=by
 unfold mB pB;rw [B.getD_lt (by simpa using h),List.getElem_map,B.getD_lt h]
theorem Qce (m:List S40):(mA m).length=m.length:=List.length_map _
theorem Qc4 (m:List S40):(mB m).length=m.length:=List.length_map _
structure Mp (a b:List S38) (m:List S40):Prop where
 ok:okM a b m=true
 ta:okT a=true
 tb:okT b=true
 sA:Sub a.length (mA m)
 sB:Sub b.length (mB m)
 eA:∀ i,i<m.length→pA m i=((mA m).getD i 0:Int)
 eB:∀ i,i<m.length→pB m i=((mB m).getD i 0:Int)
 dp:∀ i,i<m.length→dpt a (mA m) ((mA m).getD i 0)=dpt b (mB m) ((mB m).getD i 0)
 up:∀ i j,i<m.length→j<m.length→X.up a ((mA m).getD j 0) ((mA m).getD i 0)=X.up b ((mB m).getD j 0) ((mB m).getD i 0)
theorem Qqg {S:List Nat} (h:∀ i j,i<j→j<S.length→S.getD i 0<S.getD j 0):Srt S:=by
 refine List.pairwise_iff_getElem.2 fun i j hi hj hij => ?_
 have:=h i j hij hj
 rwa [B.getD_lt hi,B.getD_lt hj] at this
theorem QrJ (S:List Nat) (p:Nat→Bool):S.countP p=(List.range S.length).countP fun j=>p (S.getD j 0):=by
 have e:S=(List.range S.length).map fun j=>S.getD j 0:=by
  apply List.ext_getElem
  ·simp
  ·intro i h1 h2
   rw [List.getElem_map,List.getElem_range,B.getD_lt h1]
 conv=>lhs;rw [e]
 rw [List.countP_map];rfl
theorem QvK {a b:List S38} {m:List S40} (h:okM a b m=true) (h0:0<m.length) (hA:pA m 0=0) (hB:pB m 0=0):Mp a b m:=by
 have h9:=h
 have hU:Qop a b m m.length:=by
  unfold okM at h
  rw [Bool.and_eq_true,List.all_eq_true] at h
  exact fun i hi=>h.2 i (List.mem_range.2 hi)
 unfold okM at h
 rw [Bool.and_eq_true,Bool.and_eq_true] at h
 have atA:∀ i,i<m.length→pA m i=((mA m).getD i 0:Int)∧(mA m).getD i 0<a.length:=fun i hi=>by
  obtain ⟨n,e,hn⟩:=Qc5 (Qb2.1 (hU i hi)).1.1
  rw [Qs4 hi,e,Int.toNat_natCast];exact ⟨rfl,hn⟩
 have atB:∀ i,i<m.length→pB m i=((mB m).getD i 0:Int)∧(mB m).getD i 0<b.length:=fun i hi=>by
  obtain ⟨n,e,hn⟩:=Qc5 (Qb2.1 (hU i hi)).1.2
  rw [Qs3 hi,e,Int.toNat_natCast];exact ⟨rfl,hn⟩
 have hup:∀ i j,i<m.length→j<m.length→X.up a ((mA m).getD j 0) ((mA m).getD i 0)=X.up b ((mB m).getD j 0) ((mB m).getD i 0):=fun i j hi hj=>by
  have a1:=(atA i hi).1
  have a2:=(atB i hi).1
  have a3:=(atA j hj).1
  have a4:=(atB j hj).1
  rw [Bool.eq_iff_iff,QbQ,QbQ]
  rcases Nat.lt_trichotomy j i with c|c|c
  ·have h1:=hU.inc c hi
   have h2:=(Qb2.1 (hU i hi)).2.2 j c
   unfold Qn5 at h2
   rw [decide_eq_true_eq,a1,a2,a3,a4,Int.toNat_natCast,Int.toNat_natCast] at h2
   omega
  ·subst c;omega
  ·have h1:=hU.inc c hj
   omega
 refine ⟨h9,h.1.1,h.1.2,⟨Qqg fun i j hij hj => ?_,fun x hx => ?_, ?_⟩,⟨Qqg fun i j hij hj => ?_,fun x hx => ?_, ?_⟩,fun i hi=>(atA i hi).1,fun i hi=>(atB i hi).1,fun i hi => ?_,hup⟩
 ·rw [Qce] at hj
  have h1:=hU.inc hij hj
  have:=(atA i (by omega)).1;have:=(atA j hj).1;omega
 ·obtain ⟨i,hi,rfl⟩:=Qdx hx
  rw [Qce] at hi
  exact (atA i hi).2
 ·have e:=Qs4 h0
  rw [hA] at e
  rw [show (0:Nat)=(mA m).getD 0 0 from e.symm]
  exact Qbt (by rw [Qce];exact h0)
 ·rw [Qc4] at hj
  have h1:=hU.inc hij hj
  have:=(atB i (by omega)).1;have:=(atB j hj).1;omega
 ·obtain ⟨i,hi,rfl⟩:=Qdx hx
  rw [Qc4] at hi
  exact (atB i hi).2
 ·have e:=Qs3 h0
  rw [hB] at e
  rw [show (0:Nat)=(mB m).getD 0 0 from e.symm]
  exact Qbt (by rw [Qc4];exact h0)
 ·unfold dpt
  rw [QrJ,QrJ (mB m),Qce,Qc4]
  refine List.countP_congr fun j hj => ?_
  rw [hup i j hi (by simpa using hj)]
structure Cst where
 d:Int→Int
 i:Int→Int
 r:Int→Int→Int
def QdR (c:Cst) (x:List S38) (o:S67):Int:=if o.f0=1 then c.r (lab x (QbO x o.f1).toNat) o.f2 else if o.f0=2 then c.d (lab x (QbO x o.f1).toNat) else c.i o.f2
def QiO (c:Cst):List S38→List S67→Option (List S38×Int)
 | x,[]=>some (x,0)
 | x,o::os=>if (apN x o.f0 o.f2 o.f3 o.f4 o.f1).2=0 then (QiO c (apN x o.f0 o.f2 o.f3 o.f4 o.f1).1 os).map fun p=>(p.1,QdR c x o+p.2) else none
theorem Qew (c:Cst):∀ (os:List S67) (x:List S38) (o:S67) {y z:List S38} {n:Int}, QiO c x os=some (y,n)→apN y o.f0 o.f2 o.f3 o.f4 o.f1=(z,0)→QiO c x (os++[o])=some (z,n+QdR c y o)
 | [],x,o,y,z,n,h,h2=>by
  simp only [QiO,Option.some.injEq,Prod.mk.injEq] at h
  obtain ⟨rfl,rfl⟩:=h
  simp only [List.nil_append,QiO,h2, ↓reduceIte,Option.map_some,Int.add_zero,Int.zero_add]
 | p::os,x,o,y,z,n,h,h2=>by
  simp only [QiO,List.cons_append] at h ⊢
  split at h
  ·rename_i hc
   obtain ⟨q,hq,e⟩:=Option.map_eq_some_iff.1 h
   obtain ⟨q1,q2⟩:=q
   simp only [Prod.mk.injEq] at e
   obtain ⟨rfl,rfl⟩:=e
   rw [if_pos hc,Qew c os _ o hq h2,Option.map_some,Int.add_assoc]
  ·cases h
structure Ed (c:Cst) (a0:List S38) (tree:List S38) (ops:List S67) (nr nd ni:Nat) (cost:Int):Prop where
 run:QiO c a0 ops=some (tree,cost)
 ok:∀ o∈ops,okO o=true
 cr:ops.countP (fun o=>decide (o.f0=1))=nr
 cd:ops.countP (fun o=>decide (o.f0=2))=nd
 ci:ops.countP (fun o=>decide (o.f0=3))=ni
 len:ops.length=nr+nd+ni
theorem Ed.nil (c:Cst) (a:List S38):Ed c a a [] 0 0 0 0:=⟨rfl,fun o h=>absurd h (by simp),rfl,rfl,rfl,rfl⟩
section
variable {c:Cst} {a0 a:List S38} {f:Nat→Int} {S:List Nat} {ops:List S67} {nr nd ni:Nat} {n:Int}
theorem okP (h:okT a=true) (hS:Sub a.length S) (hf:∀ x∈S,0≤f x∧f x≤5) {x:Nat} (hx:x∈S):QhZ (QcN (cut a f S) (pos S x))=true∧(QcN (cut a f S) (pos S x)).length≤12:=by
 have hk:=(Qdh hS.1 hx).1
 obtain ⟨h1,h2⟩:=Qmd (QdQ h hS hf) (pos S x) (by rw [Qa1];exact hk)
 have:=(Qcd (QdQ h hS hf) (show pos S x<(cut a f S).length by rw [Qa1];exact hk)).2.1.2
 refine ⟨?_,by omega⟩
 unfold QhZ
 rw [List.all_eq_true]
 exact fun p hp=>by rw [decide_eq_true_eq];exact h2 p hp
theorem Qf8 (hS:Sub a.length S) {x:Nat} (hx:x∈S):lab (cut a f S) (pos S x)=f x:=by
 obtain ⟨k1,k2⟩:=Qdh hS.1 hx
 rw [Qn1 k1,k2]
theorem Ed.rel (he:Ed c a0 (cut a f S) ops nr nd ni n) (h:okT a=true) (hS:Sub a.length S) (hf:∀ x∈S,0≤f x∧f x≤5) {x:Nat} (hx:x∈S) {label:Int} (hl:0≤label∧label≤5) :
 Ed c a0 (cut a (upd f x label) S) (ops++[(⟨1,QcN (cut a f S) (pos S x),label,0,0⟩:S67)]) (nr+1) nd ni (n+c.r (f x) label):=by
 obtain ⟨p1,p2⟩:=okP h hS hf hx
 refine ⟨?_,fun o ho => ?_, ?_, ?_, ?_, ?_⟩
 ·rw [Qew c ops a0 _ he.run (Qr4 h hS hf hx hl 0 0)]
  simp only [QdR, ↓reduceIte]
  rw [Qit h hS hf hx,Int.toNat_natCast,Qf8 hS hx]
 ·rcases List.mem_append.1 ho with q|q
  ·exact he.ok o q
  ·rw [List.mem_singleton] at q;subst q
   simp only [okO,p1,p2,hl,and_self,decide_true,Bool.and_self, ↓reduceIte];rfl
 ·rw [List.countP_append,he.cr];rfl
 ·rw [List.countP_append,he.cd];rfl
 ·rw [List.countP_append,he.ci];rfl
 ·rw [List.length_append,he.len,List.length_singleton];omega
theorem Ed.del (he:Ed c a0 (cut a f S) ops nr nd ni n) (h:okT a=true) (hS:Sub a.length S) (hf:∀ x∈S,0≤f x∧f x≤5) {x:Nat} (hx:x∈S) (h0:x≠0) :
 Ed c a0 (cut a f (X.del S x)) (ops++[(⟨2,QcN (cut a f S) (pos S x),0,0,0⟩:S67)]) nr (nd+1) ni (n+c.d (f x)):=by
 obtain ⟨p1,p2⟩:=okP h hS hf hx
 refine ⟨?_,fun o ho => ?_, ?_, ?_, ?_, ?_⟩
 ·rw [Qew c ops a0 _ he.run (Qr6 h hS hf hx h0 0 0 0)]
  simp only [QdR, ↓reduceIte,show ¬((2:Int)=1) by decide]
  rw [Qit h hS hf hx,Int.toNat_natCast,Qf8 hS hx]
 ·rcases List.mem_append.1 ho with q|q
  ·exact he.ok o q
  ·rw [List.mem_singleton] at q;subst q
   simp only [okO,p1,p2,decide_true,Bool.and_self, ↓reduceIte,show ¬((2:Int)=1) by decide];rfl
 ·rw [List.countP_append,he.cr];rfl
 ·rw [List.countP_append,he.cd];rfl
 ·rw [List.countP_append,he.ci];rfl
 ·rw [List.length_append,he.len,List.length_singleton];omega
def Qkt (a:List S38) (f:Nat→Int) (S:List Nat) (v:Nat):Nat:=(QbV (cut a f S) (pos S (QbJ a v))).countP fun j=>decide (S.getD j 0<v)
def Qlp (a:List S38) (f:Nat→Int) (S:List Nat) (v:Nat):Nat:=(QbV (cut a f S) (pos S (QbJ a v))).countP fun j=>X.up a v (S.getD j 0)
theorem Ed.ins (he:Ed c a0 (cut a f S) ops nr nd ni n) (h:okT a=true) (hS:Sub a.length S) (hf:∀ x∈S,0≤f x∧f x≤5) {v:Nat} (hv:v<a.length) (h0:v≠0) (hn:v∉S) (hp:QbJ a v∈S) (hfv:0≤f v∧f v≤5) :
 Ed c a0 (cut a f (X.ins S v)) (ops++[(⟨3,QcN (cut a f S) (pos S (QbJ a v)),f v,(Qkt a f S v:Int),(Qlp a f S v:Int)⟩:S67)]) nr nd (ni+1) (n+c.i (f v)):=by
 obtain ⟨p1,p2⟩:=okP h hS hf hp
 have hk:=Qdy (cut a f S) (i:=pos S (QbJ a v)) (by rw [Qa1];exact (Qdh hS.1 hp).1)
 have hl:=(QaT (QdQ h hS hf)).2
 have q1:Qkt a f S v≤24:=by unfold Qkt;have:=List.countP_le_length (p:=fun j=>decide (S.getD j 0<v)) (l:=QbV (cut a f S) (pos S (QbJ a v)));omega
 have q2:Qlp a f S v≤24:=by unfold Qlp;have:=List.countP_le_length (p:=fun j=>X.up a v (S.getD j 0)) (l:=QbV (cut a f S) (pos S (QbJ a v)));omega
 refine ⟨?_,fun o ho => ?_, ?_, ?_, ?_, ?_⟩
 ·rw [Qew c ops a0 _ he.run (Qr5 h hS hf hv h0 hn hp hfv).2]
  simp only [QdR, ↓reduceIte,show ¬((3:Int)=1) by decide,show ¬((3:Int)=2) by decide]
 ·rcases List.mem_append.1 ho with q|q
  ·exact he.ok o q
  ·rw [List.mem_singleton] at q;subst q
   simp only [okO,p1,p2,decide_true,Bool.and_self, ↓reduceIte,show ¬((3:Int)=1) by decide,show ¬((3:Int)=2) by decide,hfv,and_self,show (0:Int)≤(Qkt a f S v:Int)∧(Qkt a f S v:Int)≤24 by omega,show (0:Int)≤(Qlp a f S v:Int)∧(Qlp a f S v:Int)≤24 by omega]
 ·rw [List.countP_append,he.cr];rfl
 ·rw [List.countP_append,he.cd];rfl
 ·rw [List.countP_append,he.ci];rfl
 ·rw [List.length_append,he.len,List.length_singleton];omega
end
end Go.Proofs.YtallpjhkmcgpoaaGreat.X
end
section
namespace Go.Proofs.YtallpjhkmcgpoaaGreat.P
open Go Go.RowKit Go.Proofs.YtallpjhkmcgpoaaGreat.V
end Go.Proofs.YtallpjhkmcgpoaaGreat.P
end
