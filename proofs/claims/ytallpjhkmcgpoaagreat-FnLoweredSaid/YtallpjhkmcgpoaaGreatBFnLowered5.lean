/- FnLowered: XPost XLow2 XLow3 XLow4 XLow5 XCostA XScrOk XLowL PureFnLowered. -/
import Derived.Test.YtallpjhkmcgpoaaGreatBFnLowered4
set_option linter.all false
set_option maxRecDepth 100000
set_option maxHeartbeats 8000000
section
namespace Go.Proofs.YtallpjhkmcgpoaaGreat.X
open Go Go.RowKit Go.Proofs.YtallpjhkmcgpoaaGreat.V Go.Proofs.YtallpjhkmcgpoaaGreat.P
def ltP (l:List S38) (x y:Nat):Prop:=(x<y∧Qbi l x≤y)∨(y<x∧x<Qbi l y)
def Ord (l:List S38) (a b:Nat) (L:List Nat):Prop:=L.Perm (List.range' a (b-a))∧L.Pairwise (ltP l)
theorem Ord.len {l:List S38} {a b:Nat} {L:List Nat} (h:Ord l a b L):L.length=b-a:=by rw [h.1.length_eq];simp
theorem Ord.mem {l:List S38} {a b x:Nat} {L:List Nat} (h:Ord l a b L) (hx:x∈L):a≤x∧x<b:=by
 have:=List.mem_range'_1.1 (h.1.mem_iff.1 hx)
 omega
theorem QwJ {α:Type} {z:α} {c:Nat→α→α→Option Int} {l:List α} {cf:Nat→Nat→Int} (hl:l.length≤4194304) (hc:∀ i j,i<l.length→j<l.length→B.Ev (fun k=>c k (l.getD i z) (l.getD j z)) (cf i j))
 (irr:∀ i,i<l.length→0≤cf i i) (tr:∀ i j k,i<l.length→j<l.length→k<l.length→cf i j<0→cf j k<0→cf i k<0)
 (ntr:∀ i j k,i<l.length→j<l.length→k<l.length→0≤cf i j→0≤cf j k→0≤cf i k) (tot:∀ i j,i<l.length→j<l.length→0≤cf i j→0≤cf j i→i=j) :
 B.Ev (fun k=>QkN z (c k) l) ((srt cf l.length).map fun i=>l.getD i z):=by
 have hk:∃ K,∀ i,i<l.length→∀ j,j<l.length→∀ k,K≤k→c k (l.getD i z) (l.getD j z)=some (cf i j):=by
  refine Qfy (fun i k k' hle h j hj m hm=>h j hj m (by omega)) fun i hi=>Qfy (fun j k k' hle h m hm=>h m (by omega)) fun j hj => ?_
  obtain ⟨K,h⟩:=hc i j hi hj
  exact ⟨K,h⟩
 obtain ⟨K,hk⟩:=hk
 refine ⟨K,fun k hK => ?_⟩
 have e:∀ i j,i<l.length→j<l.length→cfP z (c k) l i j=cf i j:=fun i j hi hj=>by
  unfold cfP;rw [hk i hi j hj k hK];rfl
 have hg:Qpn z (c k) l=true:=by
  simp only [Qpn,Bool.and_eq_true,decide_eq_true_eq,List.all_eq_true,List.mem_range]
  refine ⟨by omega,fun i hi=>⟨by rw [e i i hi hi];exact irr i hi,fun j hj=>⟨by rw [hk i hi j hj k hK];rfl,fun h1 h2 => ?_,fun m hm=>⟨fun h1 h2 => ?_,fun h1 h2 => ?_⟩⟩⟩⟩
  ·rw [e i j hi hj] at h1;rw [e j i hj hi] at h2;exact tot i j hi hj h1 h2
  ·rw [e i j hi hj] at h1;rw [e j m hj hm] at h2;rw [e i m hi hm];exact tr i j m hi hj hm h1 h2
  ·rw [e i j hi hj] at h1;rw [e j m hj hm] at h2;rw [e i m hi hm];exact ntr i j m hi hj hm h1 h2
 show QkN z (c k) l=_
 unfold QkN
 rw [if_pos hg,QfG e]
theorem Qjn (cf:Nat→Nat→Int) (n:Nat):(srt cf n).Perm (List.range n):=List.mergeSort_perm _ _
theorem QoG {cf:Nat→Nat→Int} {n:Nat} (ntr:∀ i j k,i<n→j<n→k<n→0≤cf i j→0≤cf j k→0≤cf i k) (asy:∀ i j,i<n→j<n→cf i j<0→0≤cf j i):(srt cf n).Pairwise fun i j=>i≠j∧0≤cf j i:=by
 rw [QlH,List.pairwise_map]
 have hp:=List.pairwise_mergeSort (le:=fun (x y:Fin n) => !decide (cf y.val x.val<0)) ?_ ?_ (List.finRange n)
 ·have hn:((List.finRange n).mergeSort fun x y => !decide (cf y.val x.val<0)).Pairwise (fun x y=>x≠y):=((List.mergeSort_perm _ _).nodup_iff).2 (List.nodup_finRange _)
  refine (hp.and hn).imp ?_
  rintro x y ⟨h1,h2⟩
  have h3:¬cf y.val x.val<0:=by simpa using h1
  exact ⟨fun e=>h2 (Fin.ext e),by omega⟩
 ·intro x y z h1 h2
  have h1:¬cf y.val x.val<0:=by simpa using h1
  have h2:¬cf z.val y.val<0:=by simpa using h2
  have:=ntr z.val y.val x.val z.isLt y.isLt x.isLt (by omega) (by omega)
  simpa using this
 ·intro x y
  by_cases c:cf y.val x.val<0
  ·have c2:=asy _ _ y.isLt x.isLt c
   simp [c2]
  ·simp [c]
def cP (l:List S38) (x y:Nat):Int:=if (x<y∧y<Qbi l x)∨(y<x∧Qbi l y≤x) then 1 else if x=y then 0 else -1
theorem Qga (l:List S38) (x y:Nat):cP l x y<0↔ltP l x y:=by
 unfold cP ltP
 split <;> rename_i h
 ·constructor
  ·intro h';omega
  ·intro h';omega
 ·split <;> rename_i h2
  ·constructor
   ·intro h';omega
   ·intro h';omega
  ·constructor
   ·intro _;omega
   ·intro _;omega
theorem QqY {l:List S38} {x y z:Nat} (hx:x<l.length) (hy:y<l.length) (hz:z<l.length) (h1:ltP l x y) (h2:ltP l y z):ltP l x z:=by
 have b2:x=z→Qbi l x=Qbi l z:=fun e=>by rw [e]
 have a2:=fun h=>QdO l (x:=y) (y:=x) hx h
 have a3:=fun h=>QdO l (x:=x) (y:=z) hz h
 have a6:=fun h=>QdO l (x:=z) (y:=y) hy h
 have a7:=fun h=>QdO l (x:=y) (y:=z) hz h
 unfold ltP at *
 generalize Qbi l x=ex at *
 generalize Qbi l y=ey at *
 generalize Qbi l z=ez at *
 rcases h1 with h1|h1
 ·rcases h2 with h2|h2
  ·omega
  ·rcases Nat.lt_trichotomy x z with h3|h3|h3
   ·by_cases h4:z<ex
    ·have:=a3 h3 h4;omega
    ·omega
   ·have:=b2 h3;omega
   ·omega
 ·rcases h2 with h2|h2
  ·have:=a2 h1.1 h1.2;omega
  ·have:=a6 h2.1 h2.2;omega
theorem QrO (l:List S38):∀ i j k,i<l.length→j<l.length→k<l.length→0≤cP l i j→0≤cP l j k→0≤cP l i k:=by
 intro x y z hx hy hz h1 h2
 have n1:¬ltP l x y:=fun h=>by have:=(Qga l x y).2 h;omega
 have n2:¬ltP l y z:=fun h=>by have:=(Qga l y z).2 h;omega
 have:¬ltP l x z:=fun q=>by
  by_cases e1:x=y
  ·exact n2 (e1▸q)
  ·by_cases e2:y=z
   ·exact n1 (e2▸q)
   ·have h1':ltP l y x:=by unfold ltP at *; omega
    have h2':ltP l z y:=by unfold ltP at *; omega
    have r:=QqY hz hy hx h2' h1'
    unfold ltP at *; omega
 have:=mt (Qga l x z).1 this
 omega
def Qcy (l:List S38):List Nat:=srt (cP l) l.length
def Qha (l:List S38):List Int:=if okT l=true then nI (Qcy l) else []
theorem QdI (l:List S38):Ord l 0 l.length (Qcy l):=by
 refine ⟨?_,(QoG (QrO l) fun i j _ _ h => ?_).imp ?_⟩
 ·have:List.range' 0 (l.length-0)=List.range l.length:=by rw [Nat.sub_zero,List.range_eq_range']
  rw [this];exact Qjn _ _
 ·have h:=(Qga l i j).1 h
  have:¬ltP l j i:=by unfold ltP at *; omega
  have:=mt (Qga l j i).1 this
  omega
 ·rintro x y ⟨h1,h2⟩
  have:¬ltP l y x:=fun h=>by have:=(Qga l y x).2 h;omega
  unfold ltP at *; omega
theorem QyX {l:List S38} (h:okT l=true) {x y:Nat} (hx:x<l.length) (hy:y<l.length):B.Ev (fun k=>Qae.f k (x:Int) (y:Int) l) (cP l x y):=by
 simp only [Qae.f]
 have tail:B.Ev (fun k=>if (y:Int)<(x:Int) then ((QU.f k l (y:Int)).bind fun t2=>(if (x:Int)≥t2 then (some 1) else (if (x:Int)=(y:Int) then (some 0) else (some (-1))))) else (if (x:Int)=(y:Int) then (some (0:Int)) else (some (-1)))) (if y<x∧Qbi l y≤x then 1 else if x=y then 0 else -1):=by
  refine B.Ev.ite (fun c => ?_) (fun c => ?_)
  ·refine B.Ev.bind (Qd4 h hy) ?_
   refine B.Ev.ite (fun c2 => ?_) (fun c2 => ?_)
   ·exact (B.Ev.pure _).eq (by (repeat' split) <;> omega)
   ·refine B.Ev.ite (fun c3 => ?_) (fun c3 => ?_) <;> exact (B.Ev.pure _).eq (by (repeat' split) <;> omega)
  ·refine B.Ev.ite (fun c3 => ?_) (fun c3 => ?_) <;> exact (B.Ev.pure _).eq (by (repeat' split) <;> omega)
 refine B.Ev.ite (fun c => ?_) (fun c => ?_)
 ·refine B.Ev.bind (Qd4 h hx) ?_
  by_cases c2:y<Qbi l x
  ·simp only [show (y:Int)<(Qbi l x:Int) by omega, ↓reduceIte]
   exact (B.Ev.pure _).eq (by unfold cP;rw [if_pos (.inl ⟨by omega,c2⟩)])
  ·simp only [show ¬((y:Int)<(Qbi l x:Int)) by omega, ↓reduceIte]
   refine tail.eq ?_
   unfold cP
   (repeat' split) <;> omega
 ·refine tail.eq ?_
  unfold cP
  (repeat' split) <;> omega
theorem Qtr (l:List S38) (hl:l.length≤4194304):B.Ev (fun k=>QI.f k l) (Qha l):=by
 simp only [QI.f]
 refine B.Ev.bind (B.Ev.of _ (fun k hk=>Qb7 l hl k hk)) ?_
 refine B.Ev.ite (fun h => ?_) (fun h => ?_)
 ·have e0:([]:List Int)=nI (List.range 0):=rfl
  rw [e0]
  have hn:=QaT h
  refine B.Ev.loop (g:=fun k j=>QI.l0 k (nI (List.range j)) (l.length:Int) (j:Int) l l) l.length (fun _=>True) ?_ ?_ 0 (by omega) trivial
  ·intro _
   refine B.Ev.succ ?_
   have hg:∀ i,i<l.length→(nI (List.range l.length)).getD i 0=(i:Int):=fun i hi=>by
    have:=Qmw (S:=List.range l.length) (i:=i) (by simpa using hi)
    rw [QsQ] at this
    rw [this,B.getD_lt (by simpa using hi)];simp
   have hnl:(nI (List.range l.length)).length=l.length:=by rw [QcK,List.length_range]
   have hs:=QwJ (z:=(0:Int)) (c:=fun k x y=>Qae.f k x y l) (l:=nI (List.range l.length)) (cf:=cP l) (by rw [hnl];exact hl)
    (fun i j hi hj=>by rw [hnl] at hi hj;rw [hg i hi,hg j hj];exact QyX h hi hj)
    (fun i hi=>by unfold cP;(repeat' split) <;> omega)
    (fun i j k hi hj hk h1 h2=>by rw [hnl] at hi hj hk;exact (Qga l i k).2 (QqY hi hj hk ((Qga l i j).1 h1) ((Qga l j k).1 h2)))
    (fun i j k hi hj hk=>by rw [hnl] at hi hj hk;exact QrO l i j k hi hj hk)
    (fun i j hi hj h1 h2=>by
     have n1:¬ltP l i j:=fun q=>by have:=(Qga l i j).2 q;omega
     have n2:¬ltP l j i:=fun q=>by have:=(Qga l j i).2 q;omega
     unfold ltP at *; omega)
   rw [hnl] at hs
   have hr:(srt (cP l) l.length).map (fun i=>(nI (List.range l.length)).getD i 0)=Qha l:=by
    unfold Qha;rw [if_pos h]
    refine List.map_congr_left fun i hi=>hg i ?_
    have:=(Qjn (cP l) l.length).mem_iff.1 hi
    simpa using this
   rw [hr] at hs
   simp only [QI.l0,Int.lt_irrefl, ↓reduceIte]
   refine B.Ev.bind (a:=Qha l) hs ?_
   have hpl:(Qha l).length=(nI (List.range l.length)).length:=by
    rw [hnl];unfold Qha;rw [if_pos h,QcK,(QdI l).len];omega
   simp only [hpl, ↓reduceIte]
   exact B.Ev.pure _
  ·intro j hj _ ih
   refine B.Ev.succ ?_
   have lm:(nI (List.range j)).length<17592186044416:=by rw [QcK,List.length_range];omega
   simp only [QI.l0,show (j:Int)<(l.length:Int) by omega,lm, ↓reduceIte,B.wsucc (show j<9223372036854775807 by omega)]
   have ih:=ih trivial
   have e:nI (List.range (j+1))=nI (List.range j)++[(j:Int)]:=by unfold nI;rw [List.range_succ,List.map_append];rfl
   rw [e] at ih
   exact ih
 ·exact (B.Ev.pure _).eq (by unfold Qha;rw [if_neg h])
end Go.Proofs.YtallpjhkmcgpoaaGreat.X
end
section
namespace Go.Proofs.YtallpjhkmcgpoaaGreat.X
open Go Go.RowKit Go.Proofs.YtallpjhkmcgpoaaGreat.V Go.Proofs.YtallpjhkmcgpoaaGreat.P
theorem Qhq {l:List S38} (hl:l.length≤4194304) (kind label from_ count:Int) (path:List Int) (hp:path.length≤4611686018427387904) (hf : -9223372036854775808≤from_∧from_≤9223372036854775807) :
 B.Ev (fun k=>Qo.f k l kind path label from_ count) (apN l kind label from_ count path):=by
 obtain ⟨u,v,⟨rfl,_,e,_⟩,_,g⟩:=Qij hl kind label from_ count path hp hf
 rw [←e];exact g
theorem Qi9 {l:List S38} (h:okT l=true) (kind label from_ count:Int) (path:List Int) {i:Int} (hi:i = -1∨∃ n:Nat,i=(n:Int)∧n<l.length) (hf : -9223372036854775808≤from_∧from_≤9223372036854775807) :
 B.Ev (fun k=>QA.f k l kind path label from_ count i) (QcB l kind label from_ count i):=by
 obtain ⟨u,v,⟨rfl,_,e⟩,_,g⟩:=QrD h kind label from_ count path hi hf
 rw [←e];exact g
section
variable {a:List S38} {f:Nat→Int} {S:List Nat} {ops:List S67}
theorem Qtw (h:okT a=true) (hS:Sub a.length S) (hf:∀ x∈S,0≤f x∧f x≤5) {x:Nat} (hx:x∈S) {label:Int} (hl:0≤label∧label≤5) (ho:ops.length≤1000000) :
 B.Ev (fun k=>Qai.f k (cut a f S) (nI S) ops (x:Int) 1 [] label 0 0 0) (cut a (upd f x label) S,nI S,ops++[(⟨1,QcN (cut a f S) (pos S x),label,0,0⟩:S67)]):=by
 have hok:=QdQ h hS hf
 have hlen:=QaT hok
 have hsl:S.length≤24:=by rw [Qa1] at hlen;omega
 obtain ⟨k1,k2⟩:=Qdh hS.1 hx
 have hk:pos S x<(cut a f S).length:=by rw [Qa1];exact k1
 have hp:=(okP h hS hf hx).2
 simp only [Qai.f]
 refine B.Ev.bind (QpJ hS.1 (by omega) hx) ?_
 refine B.Ev.bind (Qi6 hok hk) ?_
 refine B.Ev.bind (Qi9 hok 1 label 0 0 _ (.inr ⟨_,rfl,hk⟩) (by omega)) ?_
 refine B.Ev.bind (Qhq (by omega) 1 label 0 0 _ (by omega) (by omega)) ?_
 simp only [Qr4 h hS hf hx hl 0 0,show ¬((1:Int)=2) by decide,show ¬((1:Int)=3) by decide, ↓reduceIte,show ops.length<2513169434916 by omega]
 exact B.Ev.pure _
theorem Qty (h:okT a=true) (hS:Sub a.length S) (hf:∀ x∈S,0≤f x∧f x≤5) {x:Nat} (hx:x∈S) (h0:x≠0) (ho:ops.length≤1000000) :
 B.Ev (fun k=>Qai.f k (cut a f S) (nI S) ops (x:Int) 2 [] 0 0 0 0) (cut a f (del S x),nI (del S x),ops++[(⟨2,QcN (cut a f S) (pos S x),0,0,0⟩:S67)]):=by
 have hok:=QdQ h hS hf
 have hlen:=QaT hok
 have hsl:S.length≤24:=by rw [Qa1] at hlen;omega
 obtain ⟨k1,k2⟩:=Qdh hS.1 hx
 have hk:pos S x<(cut a f S).length:=by rw [Qa1];exact k1
 have hp:=(okP h hS hf hx).2
 have hw:=B.wsucc (show pos S x<9223372036854775807 by omega)
 have hd:(nI S).take (pos S x)++(nI S).drop (pos S x+1)=nI (del S x):=by
  rw [←QpU hS.1 hx];unfold nI;rw [List.map_append,List.map_take,List.map_drop]
 simp only [Qai.f]
 refine B.Ev.bind (QpJ hS.1 (by omega) hx) ?_
 refine B.Ev.bind (Qi6 hok hk) ?_
 refine B.Ev.bind (Qi9 hok 2 0 0 0 _ (.inr ⟨_,rfl,hk⟩) (by omega)) ?_
 refine B.Ev.bind (Qhq (by omega) 2 0 0 0 _ (by omega) (by omega)) ?_
 simp only [Qr6 h hS hf hx h0 0 0 0, ↓reduceIte,hw,QaQ.f,QcK,show (0:Int)≤(pos S x:Int) by omega,show (pos S x:Int)≤((pos S x+1:Nat):Int) by omega,show ((pos S x+1:Nat):Int)≤(S.length:Int) by omega,show S.length * 8≤140737488355328 by omega,Int.toNat_natCast,hd,Option.bind_some,show ops.length<2513169434916 by omega]
 exact B.Ev.pure _
theorem Qtx (h:okT a=true) (hS:Sub a.length S) (hf:∀ x∈S,0≤f x∧f x≤5) {v:Nat} (hv:v<a.length) (h0:v≠0) (hn:v∉S) (hp:QbJ a v∈S) (hfv:0≤f v∧f v≤5) (ho:ops.length≤1000000) :
 B.Ev (fun k=>Qai.f k (cut a f S) (nI S) ops (QbJ a v:Int) 3 [] (f v) (Qkt a f S v:Int) (Qlp a f S v:Int) (v:Int)) (cut a f (ins S v),nI (ins S v),ops++[(⟨3,QcN (cut a f S) (pos S (QbJ a v)),f v,(Qkt a f S v:Int),(Qlp a f S v:Int)⟩:S67)]):=by
 have hok:=QdQ h hS hf
 have hlen:=QaT hok
 have hsl:S.length≤24:=by rw [Qa1] at hlen;omega
 obtain ⟨k1,k2⟩:=Qdh hS.1 hp
 have hk:pos S (QbJ a v)<(cut a f S).length:=by rw [Qa1];exact k1
 have hpl:=(okP h hS hf hp).2
 have hkl:=Qdy (cut a f S) hk
 have q1:Qkt a f S v≤24:=by unfold Qkt;have:=List.countP_le_length (p:=fun j=>decide (S.getD j 0<v)) (l:=QbV (cut a f S) (pos S (QbJ a v)));omega
 have hd:(nI S).take (pos S v)++[(v:Int)]++(nI S).drop (pos S v)=nI (ins S v):=by
  rw [←Qj2 hS.1 v];unfold nI;rw [List.map_append,List.map_append,List.map_take,List.map_drop];rfl
 have hpv:=QhX S v
 obtain ⟨e1,e2⟩:=Qr5 h hS hf hv h0 hn hp hfv
 simp only [Qai.f]
 refine B.Ev.bind (QpJ hS.1 (by omega) hp) ?_
 refine B.Ev.bind (Qi6 hok hk) ?_
 refine B.Ev.bind (Qi9 hok 3 (f v) (Qkt a f S v:Int) (Qlp a f S v:Int) _ (.inr ⟨_,rfl,hk⟩) (by omega)) ?_
 refine B.Ev.bind (Qhq (by omega) 3 (f v) (Qkt a f S v:Int) (Qlp a f S v:Int) _ (by omega) (by omega)) ?_
 have e1':QcB (cut a f S) 3 (f v) (Qkt a f S v:Int) (Qlp a f S v:Int) (pos S (QbJ a v):Int)=(0,(pos S v:Int),(pos S (Qbi a v):Int)):=e1
 have e2':apN (cut a f S) 3 (f v) (Qkt a f S v:Int) (Qlp a f S v:Int) (QcN (cut a f S) (pos S (QbJ a v)))=(cut a f (ins S v),0):=e2
 simp only [e1',e2',show ¬((3:Int)=2) by decide, ↓reduceIte,QaP.f,QcK,show (0:Int)≤(pos S v:Int) by omega,show (pos S v:Int)≤(S.length:Int) by omega,List.length_singleton,show 0<1 by decide,show (S.length+1) * 8≤140737488355328 by omega,Int.toNat_natCast,hd,Option.bind_some,show ops.length<2513169434916 by omega]
 exact B.Ev.pure _
end
def QaF (n:Nat) (S:List Nat):List Nat:=(List.range n).filter fun x=>decide (x∉S)
theorem QkD {m:List S40} {x:Nat} (hp:∀ p∈m,0≤p.f0):(m.any fun p=>p.f0 == (x:Int))=decide (x∈mA m):=by
 rw [Bool.eq_iff_iff,List.any_eq_true,decide_eq_true_eq]
 unfold mA
 rw [List.mem_map]
 constructor
 ·rintro ⟨p,h1,h2⟩
  have:=eq_of_beq h2
  exact ⟨p,h1,by omega⟩
 ·rintro ⟨p,h1,h2⟩
  have:=hp p h1
  exact ⟨p,h1,by rw [beq_iff_eq];omega⟩
theorem QwL (m:List S40) (x:Int) (hl:m.length≤4194304):∃ r:Int,B.Ev (fun k=>Qd.f k m x) r∧decide (r≥0)=m.any fun p=>p.f0 == x:=by
 simp only [Qd.f]
 have key:∀ n p:Nat,p+n=m.length→∃ r:Int,B.Ev (fun k=>Qd.l0 k m (m.length:Int) (p:Int) x) r∧decide (r≥0)=(m.drop p).any fun p=>p.f0 == x:=by
  intro n
  induction n with
  | zero =>
   intro p hp
   refine ⟨-1,B.Ev.succ ?_,by rw [List.drop_eq_nil_of_le (by omega)];rfl⟩
   simp only [Qd.l0,show ¬((p:Int)<(m.length:Int)) by omega, ↓reduceIte]
   exact B.Ev.pure _
  | succ n ih =>
   intro p hp
   have hlt:p<m.length:=by omega
   have e:Qah m (p:Int)=m[p]:=by rw [Qc3];exact B.getD_lt hlt
   rw [List.drop_eq_getElem_cons hlt,List.any_cons]
   by_cases c:m[p].f0=x
   ·refine ⟨(p:Int),B.Ev.succ ?_,by simp [c]⟩
    simp only [Qd.l0,show (p:Int)<(m.length:Int) by omega,show 0≤(p:Int) by omega, ↓reduceIte,e,Qaq.f,Option.bind_some,c,beq_self_eq_true]
    exact B.Ev.pure _
   ·obtain ⟨r,h1,h2⟩:=ih (p+1) (by omega)
    have cb:(m[p].f0 == x)=false:=by rw [beq_eq_false_iff_ne];exact c
    refine ⟨r,B.Ev.succ ?_,by rw [cb,Bool.false_or];exact h2⟩
    simp only [Qd.l0,show (p:Int)<(m.length:Int) by omega,show 0≤(p:Int) by omega, ↓reduceIte,e,Qaq.f,Option.bind_some,cb,Bool.false_eq_true,B.wsucc (show p<9223372036854775807 by omega)]
    exact h1
 have:=key m.length 0 (by omega)
 rw [List.drop_zero] at this
 exact this
theorem QgL {l:List S38} {m:List S40} (hl:l.length≤4194304) (hm:m.length≤4194304) (hp:∀ p∈m,0≤p.f0):B.Ev (fun k=>QO.f k l m) (nI (QaF l.length (mA m))):=by
 simp only [QO.f]
 have e0:([]:List Int)=nI (QaF 0 (mA m)):=rfl
 rw [e0]
 refine B.Ev.loop (g:=fun k j=>QO.l0 k m (nI (QaF j (mA m))) (l.length:Int) (j:Int) l) l.length (fun _=>True) ?_ ?_ 0 (Nat.zero_le _) trivial
 ·intro _
  refine B.Ev.succ ?_
  simp only [QO.l0,Int.lt_irrefl, ↓reduceIte]
  exact B.Ev.pure _
 ·intro j hj _ ih
  obtain ⟨r,h1,h2⟩:=QwL m (j:Int) hm
  rw [QkD hp] at h2
  have hlen:(nI (QaF j (mA m))).length≤j:=by
   rw [QcK];unfold QaF
   exact Nat.le_trans (List.length_filter_le _ _) (by simp)
  have hsn:QaF (j+1) (mA m)=QaF j (mA m)++if j∈mA m then [] else [j]:=by
   unfold QaF
   rw [List.range_succ,List.filter_append]
   by_cases c:j∈mA m
   ·rw [if_pos c,List.filter_cons_of_neg (by simp [c])];rfl
   ·rw [if_neg c,List.filter_cons_of_pos (by simp [c])];rfl
  have ih:=ih trivial
  rw [hsn] at ih
  refine B.Ev.succ ?_
  simp only [QO.l0,show (j:Int)<(l.length:Int) by omega, ↓reduceIte,B.wsucc (show j<9223372036854775807 by omega),QD.f]
  refine B.Ev.bind (B.Ev.bind h1 (B.Ev.pure _)) ?_
  rw [h2]
  by_cases c:j∈mA m
  ·rw [if_pos c,List.append_nil] at ih
   simp only [c,decide_true, ↓reduceIte];exact ih
  ·rw [if_neg c] at ih
   have e:nI (QaF j (mA m)++[j])=nI (QaF j (mA m))++[(j:Int)]:=by unfold nI;rw [List.map_append];rfl
   rw [e] at ih
   simp only [c,decide_false,Bool.false_eq_true, ↓reduceIte,show (nI (QaF j (mA m))).length<17592186044416 by omega];exact ih
def Qgr (m:List S40):List S40:=m.map fun p=>⟨p.f1,p.f0⟩
theorem QpH {m:List S40} (hm:m.length≤4194304):B.Ev (fun k=>Q4.f k m) (Qgr m):=by
 simp only [Q4.f]
 have e0:([]:List S40)=(m.take 0).map fun p=>⟨p.f1,p.f0⟩:=rfl
 rw [e0]
 have eA:Qgr m=(m.take m.length).map fun p=>⟨p.f1,p.f0⟩:=by rw [List.take_length];rfl
 rw [eA]
 refine B.Ev.loop (g:=fun k j=>Q4.l0 k ((m.take j).map fun p=>⟨p.f1,p.f0⟩) m (m.length:Int) (j:Int)) m.length (fun _=>True) ?_ ?_ 0 (Nat.zero_le _) trivial
 ·intro _
  refine B.Ev.succ ?_
  simp only [Q4.l0,Int.lt_irrefl, ↓reduceIte]
  exact B.Ev.pure _
 ·intro j hj _ ih
  have e:Qah m (j:Int)=m[j]:=by rw [Qc3];exact B.getD_lt hj
  have ih:=ih trivial
  rw [←B.take_snoc m (fun p=>(⟨p.f1,p.f0⟩:S40)) hj] at ih
  refine B.Ev.succ ?_
  simp only [Q4.l0,show (j:Int)<(m.length:Int) by omega,show 0≤(j:Int) by omega, ↓reduceIte,e,B.wsucc (show j<9223372036854775807 by omega),List.length_map,List.length_take,show min j m.length<8796093022208 by omega]
  exact ih
theorem QoC (m:List S40):mA (Qgr m)=mB m:=by unfold mA mB Qgr;rw [List.map_map];rfl
theorem QnE {l:List S38} {m:List S40} (hl:l.length≤4194304) (hm:m.length≤4194304) (hp:∀ p∈m,0≤p.f1):B.Ev (fun k=>Qa3.f k l m) (nI (QaF l.length (mB m))):=by
 simp only [Qa3.f]
 refine B.Ev.bind (QpH hm) ?_
 refine B.Ev.bind ?_ (B.Ev.pure _)
 rw [←QoC]
 refine QgL hl (by unfold Qgr;rw [List.length_map];exact hm) fun p hp' => ?_
 unfold Qgr at hp'
 obtain ⟨q,hq,rfl⟩:=List.mem_map.1 hp'
 exact hp q hq
theorem Qk9 {S:List Nat} (hS:Srt S) (hl:S.length≤4194304) (x:Nat):B.Ev (fun k=>Q9.f k (nI S) (x:Int)) (decide (x∈S)):=by
 simp only [Q9.f]
 have h:=QnJ (nI S) (x:Int) (by rw [QcK];exact hl) (nI S).length 0 (by omega) (fun j hj=>absurd hj (Nat.not_lt_zero _))
 rw [List.drop_zero] at h
 refine B.Ev.bind h ((B.Ev.pure _).eq ?_)
 rw [decide_eq_decide]
 by_cases c:x∈S
 ·rw [Qm8 hS c];simp [c]
 ·have:=Qv7 c;simp only [c,iff_false];omega
end Go.Proofs.YtallpjhkmcgpoaaGreat.X
end
section
namespace Go.Proofs.YtallpjhkmcgpoaaGreat.X
open Go Go.RowKit Go.Proofs.YtallpjhkmcgpoaaGreat.V Go.Proofs.YtallpjhkmcgpoaaGreat.P
def Qcx {α:Type} (g:α→Int):List α→Int
 | []=>0
 | x::l=>g x+Qcx g l
theorem Qg1 {α:Type} (g:α→Int):∀ (l l':List α),Qcx g (l++l')=Qcx g l+Qcx g l'
 | [],l'=>by simp [Qcx]
 | x::l,l'=>by simp only [List.cons_append,Qcx,Qg1 g l l'];omega
theorem QlG {α:Type} (g:α→Int) {l l':List α} (h:l.Perm l'):Qcx g l=Qcx g l':=by
 induction h with
 | nil=>rfl
 | cons x _ ih=>simp only [Qcx,ih]
 | swap x y l=>simp only [Qcx];omega
 | trans _ _ h1 h2=>exact h1.trans h2
theorem QdV {α:Type} {l:List α} {t:Nat} (h:t<l.length):l.take (t+1)=l.take t++[l[t]]:=by
 rw [List.take_add_one,List.getElem?_eq_getElem h];rfl
section
variable {c:Cst} {a b:List S38} {m:List S40}
theorem Qez (h:okT a=true) {x:Nat} (hx:x<a.length):0≤lab a x∧lab a x≤5:=(Qcd h hx).1
theorem Qhm (h:okT b=true):cut b (lab b) (List.range b.length)=b:=by
 apply List.ext_getElem
 ·rw [Qa1,List.length_range]
 ·intro i h1 h2
  have e:=QeH (a:=b) (f:=lab b) (S:=List.range b.length) (i:=i) (by rw [List.length_range];exact h2)
  rw [B.getD_lt h1] at e
  have eg:(List.range b.length).getD i 0=i:=by rw [B.getD_lt (by rw [List.length_range];exact h2),List.getElem_range]
  rw [e,eg, ←QnX h i h2]
  unfold lab dep
  rw [B.getD_lt h2]
theorem QdM (n:Nat) (S:List Nat):Srt (QaF n S):=List.Pairwise.filter _ List.pairwise_lt_range
theorem QcH {n:Nat} {S:List Nat} {x:Nat} : x∈QaF n S↔x<n∧x∉S:=by
 unfold QaF;rw [List.mem_filter,List.mem_range,decide_eq_true_eq]
def QcA (c:Cst) (b:List S38) (l:List Nat):Int:=Qcx (fun v=>c.i (lab b v)) l
theorem QvV (hM:Mp a b m) (a0:List S38) (nr nd:Nat) (hnr:nr+nd≤100):∀ (d t:Nat) (S:List Nat) (ops:List S67) (n:Int),t+d=(QaF b.length (mB m)).length→Sub b.length S→(∀ x,x<b.length→(x∈S↔x∈mB m∨x∈(QaF b.length (mB m)).take t)) →
 Ed c a0 (cut b (lab b) S) ops nr nd t n →
 B.EvP (fun k=>Qa.l4 k b (nI (QaF b.length (mB m))) ((nI (QaF b.length (mB m))).length:Int) (t:Int) a m (cut b (lab b) S) (nI S) ops) (fun v=>Ed c a0 b v nr nd (QaF b.length (mB m)).length (n+QcA c b ((QaF b.length (mB m)).drop t))):=by
 have hb:=QaT hM.tb
 have hfl:(QaF b.length (mB m)).length≤b.length:=Qds (QdM _ _) fun x hx=>(QcH.1 hx).1
 intro d
 induction d with
 | zero =>
  intro t S ops n ht hS hmem he
  refine B.EvP.succ ?_
  have hr:S=List.range b.length:=Qeb hS.1 List.pairwise_lt_range fun x=>by
   rw [List.mem_range]
   refine ⟨fun hx=>hS.2.1 x hx,fun hx=>(hmem x hx).2 ?_⟩
   by_cases q:x∈mB m
   ·exact .inl q
   ·right;rw [List.take_of_length_le (by omega)];exact QcH.2 ⟨hx,q⟩
  have ht':t=(QaF b.length (mB m)).length:=by omega
  subst hr
  rw [Qhm hM.tb] at he ⊢
  simp only [Qa.l4,QcK,show ¬((t:Int)<((QaF b.length (mB m)).length:Int)) by omega, ↓reduceIte]
  refine B.EvP.pure ?_
  rw [ht',List.drop_length]
  unfold QcA;simp only [Qcx,Int.add_zero]
  rw [ht'] at he;exact he
 | succ d ih =>
  intro t S ops n ht hS hmem he
  have htl:t<(QaF b.length (mB m)).length:=by omega
  generalize hv':(QaF b.length (mB m))[t]=v
  have hvm:v∈QaF b.length (mB m):=by rw [←hv'];exact List.getElem_mem htl
  obtain ⟨hv,hvn⟩:=QcH.1 hvm
  have h0:v≠0:=fun e=>hvn (e▸hM.sB.2.2)
  have htake:∀ x,x∈(QaF b.length (mB m)).take t↔x∈QaF b.length (mB m)∧x<v:=fun x=>by
   constructor
   ·intro hx
    obtain ⟨i,hi,e⟩:=List.getElem_of_mem hx
    rw [List.length_take] at hi
    rw [List.getElem_take] at e
    have:=List.pairwise_iff_getElem.1 (QdM b.length (mB m)) i t (by omega) htl (by omega)
    exact ⟨e▸List.getElem_mem _,by omega⟩
   ·rintro ⟨hx,hlt⟩
    obtain ⟨i,hi,e⟩:=List.getElem_of_mem hx
    have:i<t:=by
     rcases Nat.lt_trichotomy i t with q|q|q
     ·exact q
     ·subst q;omega
     ·have:=List.pairwise_iff_getElem.1 (QdM b.length (mB m)) t i htl hi q;omega
    rw [←e]
    exact List.mem_take_iff_getElem.2 ⟨i,by omega,rfl⟩
  have hn:v∉S:=fun hx=>by
   rcases (hmem v hv).1 hx with q|q
   ·exact hvn q
   ·have:=((htake v).1 q).2;omega
  obtain ⟨ep,hpl⟩:=Qc6 hM.tb hv h0
  have hp:QbJ b v∈S:=by
   refine (hmem _ (by omega)).2 ?_
   by_cases q:QbJ b v∈mB m
   ·exact .inl q
   ·exact .inr ((htake _).2 ⟨QcH.2 ⟨by omega,q⟩,hpl⟩)
  have hf:∀ x∈S,0≤lab b x∧lab b x≤5:=fun x hx=>Qez hM.tb (hS.2.1 x hx)
  have hok:=QdQ hM.tb hS hf
  have hlen:=QaT hok
  have hsl:S.length≤24:=by rw [Qa1] at hlen;omega
  obtain ⟨k1,k2⟩:=Qdh hS.1 hp
  have hk:pos S (QbJ b v)<(cut b (lab b) S).length:=by rw [Qa1];exact k1
  have hkl:=Qdy (cut b (lab b) S) hk
  have hfv:=Qez hM.tb hv
  have hops:ops.length≤1000000:=by have:=he.len;omega
  have he':=he.ins hM.tb hS hf hv h0 hn hp hfv
  have hrd:rd (nI (QaF b.length (mB m))) (t:Int)=(v:Int):=by rw [Qmw htl,B.getD_lt htl,hv']
  have hS':=hS.ins hv hn
  have hih:=ih (t+1) (ins S v) _ _ (by omega) hS' (fun x hx=>by
   rw [QiV,hmem x hx,QdV htl,hv',List.mem_append,List.mem_singleton,or_assoc]) he'
  have hdrop:(QaF b.length (mB m)).drop t=v::(QaF b.length (mB m)).drop (t+1):=by rw [List.drop_eq_getElem_cons htl,hv']
  rw [hdrop]
  have hcost:n+QcA c b (v::(QaF b.length (mB m)).drop (t+1))=n+c.i (lab b v)+QcA c b ((QaF b.length (mB m)).drop (t+1)):=by
   unfold QcA;simp only [Qcx];omega
  rw [hcost]
  refine B.EvP.succ ?_
  have elb:(Qac b (v:Int)).f0=lab b v:=by rw [QbI];rfl
  simp only [Qa.l4,show (t:Int)<((nI (QaF b.length (mB m))).length:Int) by rw [QcK];omega,show 0≤(t:Int) by omega,hrd,show 0≤(v:Int) by omega,show (v:Int)<(b.length:Int) by omega, ↓reduceIte]
  refine B.EvP.bind (B.EvP.of (QnB hM.tb hv) rfl) ?_
  rintro _ rfl
  rw [ep]
  refine B.EvP.bind (B.EvP.of (QpJ hS.1 (by omega) hp) rfl) ?_
  rintro _ rfl
  refine B.EvP.bind (B.EvP.of (Qf3 hok hk) rfl) ?_
  rintro _ rfl
  rw [elb]
  have e5:Qkt b (lab b) S v=(QbV (cut b (lab b) S) (pos S (QbJ b v))).countP fun j=>decide (S.getD j 0<v):=rfl
  have e6:Qlp b (lab b) S v=(QbV (cut b (lab b) S) (pos S (QbJ b v))).countP fun j=>X.up b v (S.getD j 0):=rfl
  have hKS:∀ j∈QbV (cut b (lab b) S) (pos S (QbJ b v)),j<S.length:=fun j hj=>by have:=(Qdz _ hk hj).2.2;rw [Qa1] at this;exact this
  have D:=Qtx (ops:=ops) hM.tb hS hf hv h0 hn hp hfv hops
  rw [e5,e6] at D hih
  clear e5 e6 he'
  generalize hKK:QbV (cut b (lab b) S) (pos S (QbJ b v))=K at *
  have hKlen:(K.map fun (j:Nat)=>(j:Int)).length=K.length:=List.length_map _
  have inner:∀ (e u:Nat),u+e=K.length→B.EvP (fun k=>Qa.l5 k b (v:Int) (QbJ b v:Int) (nI (QaF b.length (mB m))) ((nI (QaF b.length (mB m))).length:Int) (t:Int) (K.map fun (j:Nat)=>(j:Int)) ((K.map fun (j:Nat)=>(j:Int)).length:Int) (u:Int) a m (cut b (lab b) S) (nI S) ops 3 [] (lab b v) ((K.take u).countP (fun j=>decide (S.getD j 0<v)):Nat) ((K.take u).countP (fun j=>X.up b v (S.getD j 0)):Nat))
   (fun w=>Ed c a0 b w nr nd (QaF b.length (mB m)).length (n+c.i (lab b v)+QcA c b ((QaF b.length (mB m)).drop (t+1)))):=by
   intro e
   induction e with
   | zero =>
    intro u hu
    refine B.EvP.succ ?_
    rw [List.take_of_length_le (by omega)]
    simp only [Qa.l5,hKlen,show ¬((u:Int)<(K.length:Int)) by omega, ↓reduceIte]
    refine B.EvP.bind (B.EvP.of D rfl) ?_
    rintro _ rfl
    simp only [B.wsucc (show t<9223372036854775807 by omega)]
    exact hih
   | succ e ihe =>
    intro u hu
    have hul:u<K.length:=by omega
    have hy:K[u]<S.length:=hKS _ (List.getElem_mem hul)
    have hyS:S.getD K[u] 0∈S:=Qbt hy
    have hyb:=hS.2.1 _ hyS
    have hrk:rd (K.map fun (j:Nat)=>(j:Int)) (u:Int)=((K[u]:Nat):Int):=by
     have:=QfL (K:=K) (p:=(u:Int)) (by omega) (by omega)
     rw [this,Int.toNat_natCast,B.getD_lt hul]
    have hri:rd (nI S) ((K[u]:Nat):Int)=((S.getD K[u] 0:Nat):Int):=Qmw hy
    have hyv:S.getD K[u] 0≠v:=fun q=>hn (q▸hyS)
    have ihe:=ihe (u+1) (by omega)
    rw [QdV hul,List.countP_append,List.countP_append,List.countP_singleton,List.countP_singleton] at ihe
    have c1:(K.take u).countP (fun j=>decide (S.getD j 0<v))≤24:=by have:=List.countP_le_length (p:=fun j=>decide (S.getD j 0<v)) (l:=K.take u);rw [List.length_take] at this;omega
    have c2:(K.take u).countP (fun j=>X.up b v (S.getD j 0))≤24:=by have:=List.countP_le_length (p:=fun j=>X.up b v (S.getD j 0)) (l:=K.take u);rw [List.length_take] at this;omega
    generalize (K.take u).countP (fun j=>decide (S.getD j 0<v))=n1 at *
    generalize (K.take u).countP (fun j=>X.up b v (S.getD j 0))=n2 at *
    generalize hyy:S.getD K[u] 0=y at *
    refine B.EvP.succ ?_
    simp only [Qa.l5,hKlen,show (u:Int)<(K.length:Int) by omega,show 0≤(u:Int) by omega,hrk,show 0≤((K[u]:Nat):Int) by omega,show ((K[u]:Nat):Int)<((nI S).length:Int) by rw [QcK];omega,hri, ↓reduceIte,B.wsucc (show u<9223372036854775807 by omega),B.wsucc (show n1<9223372036854775807 by omega),B.wsucc (show n2<9223372036854775807 by omega)]
    rw [hKlen] at ihe
    by_cases q1:y<v
    ·have u1:X.up b v y=false:=by unfold X.up;rw [decide_eq_false];omega
     simp only [q1,u1,decide_true,Bool.false_eq_true, ↓reduceIte,Nat.add_zero] at ihe
     simp only [show (y:Int)<(v:Int) by omega, ↓reduceIte]
     exact ihe
    ·simp only [show ¬((y:Int)<(v:Int)) by omega, ↓reduceIte]
     refine B.EvP.bind (B.EvP.of (QpG hM.tb hv hyb) rfl) ?_
     rintro _ rfl
     by_cases q2:v<y∧y<Qbi b v
     ·have u1:X.up b v y=true:=QbQ.2 q2
      simp only [q1,u1,decide_false,Bool.false_eq_true, ↓reduceIte,Nat.add_zero] at ihe
      simp only [q2,and_self,decide_true, ↓reduceIte]
      exact ihe
     ·have u1:X.up b v y=false:=by unfold X.up;rw [decide_eq_false];exact q2
      simp only [q1,u1,decide_false,Bool.false_eq_true, ↓reduceIte,Nat.add_zero] at ihe
      simp only [q2,decide_false,Bool.false_eq_true, ↓reduceIte]
      exact ihe
  have:=inner K.length 0 (by omega)
  simpa using this
end
end Go.Proofs.YtallpjhkmcgpoaaGreat.X
end
section
namespace Go.Proofs.YtallpjhkmcgpoaaGreat.X
open Go Go.RowKit Go.Proofs.YtallpjhkmcgpoaaGreat.V Go.Proofs.YtallpjhkmcgpoaaGreat.P
theorem QvO (L L':List Nat) {t:Nat} (h:t<L.length) (hl:L.length=L'.length):(nI (L'.take t++L.drop t)).set t ((L'.getD t 0:Nat):Int)=nI (L'.take (t+1)++L.drop (t+1)):=by
 rw [B.getD_lt (show t<L'.length by omega)]
 unfold nI
 apply List.ext_getElem
 ·simp;omega
 ·intro i h1 h2
  rw [List.getElem_set,List.getElem_map,List.getElem_map]
  simp only [List.length_set,List.length_map,List.length_append,List.length_take,List.length_drop] at h1
  by_cases c:t=i
  ·subst c
   rw [if_pos rfl,List.getElem_append_left (by rw [List.length_take];omega),List.getElem_take]
  ·rw [if_neg c]
   rcases Nat.lt_or_ge i t with d|d
   ·rw [List.getElem_append_left (by rw [List.length_take];omega),List.getElem_append_left (by rw [List.length_take];omega),List.getElem_take,List.getElem_take]
   ·rw [List.getElem_append_right (by rw [List.length_take];omega),List.getElem_append_right (by rw [List.length_take];omega),List.getElem_drop,List.getElem_drop]
    congr 1
    have e1:t+(i-(L'.take t).length)=i:=by rw [List.length_take];omega
    have e2:t+1+(i-(L'.take (t+1)).length)=i:=by rw [List.length_take];omega
    simp only [e1,e2]
section
variable {c:Cst} {a b:List S38} {m:List S40}
theorem Qn0 (hM:Mp a b m) {F:Nat→Int} (hF:∀ i,i<m.length→F ((mA m).getD i 0)=lab b ((mB m).getD i 0)):cut a F (mA m)=cut b (lab b) (mB m):=by
 apply List.ext_getElem
 ·rw [Qa1,Qa1,Qce,Qc4]
 ·intro i h1 h2
  rw [Qa1,Qce] at h1
  have e1:=QeH (a:=a) (f:=F) (S:=mA m) (i:=i) (by rw [Qce];exact h1)
  have e2:=QeH (a:=b) (f:=lab b) (S:=mB m) (i:=i) (by rw [Qc4];exact h1)
  rw [B.getD_lt (by rw [Qa1,Qce];exact h1)] at e1
  rw [B.getD_lt h2] at e2
  rw [e1,e2,hF i h1,hM.dp i h1]
theorem QyH (hM:Mp a b m) {F:Nat→Int} (hF:∀ i,i<m.length→F ((mA m).getD i 0)=lab b ((mB m).getD i 0)) (a0:List S38) {nr nd:Nat} (hnr:nr+nd≤100) {ops:List S67} {n:Int}
 (he:Ed c a0 (cut a F (mA m)) ops nr nd 0 n):∀ (d t:Nat),t+d=m.length →
 B.EvP (fun k=>Qa.l3 k b m (m.length:Int) (t:Int) a (cut a F (mA m)) (nI ((mB m).take t++(mA m).drop t)) ops) (fun v=>Ed c a0 b v nr nd (QaF b.length (mB m)).length (n+QcA c b (QaF b.length (mB m)))):=by
 have hb:=QaT hM.tb
 have hml:m.length≤24:=by have:=Qds hM.sB.1 hM.sB.2.1;rw [Qc4] at this;omega
 have hpos:∀ p∈m,0≤p.f1:=fun p hp=>by
  obtain ⟨i,hi,e⟩:=List.getElem_of_mem hp
  have:=hM.eB i hi
  unfold pB at this
  rw [B.getD_lt hi,e] at this
  omega
 intro d
 induction d with
 | zero =>
  intro t ht
  obtain rfl:t=m.length:=by omega
  refine B.EvP.succ ?_
  simp only [Qa.l3,Int.lt_irrefl, ↓reduceIte]
  rw [List.take_of_length_le (by rw [Qc4];omega),List.drop_of_length_le (by rw [Qce];omega),List.append_nil]
  refine B.EvP.bind (B.EvP.of (QnE (by omega) (by omega) hpos) rfl) ?_
  rintro _ rfl
  have:=QvV (c:=c) hM a0 nr nd hnr (QaF b.length (mB m)).length 0 (mB m) ops n (by omega) hM.sB (fun x hx=>by simp) (by rw [←Qn0 hM hF];exact he)
  rw [←Qn0 hM hF,List.drop_zero] at this
  exact this
 | succ d ih =>
  intro t ht
  have hlt:t<m.length:=by omega
  have e1:(Qah m (t:Int)).f1=(((mB m).getD t 0:Nat):Int):=by rw [Qc3];exact hM.eB t hlt
  have hl:(nI ((mB m).take t++(mA m).drop t)).length=m.length:=by rw [QcK,List.length_append,List.length_take,List.length_drop,Qce,Qc4];omega
  refine B.EvP.succ ?_
  simp only [Qa.l3,show (t:Int)<(m.length:Int) by omega,show 0≤(t:Int) by omega,hl, ↓reduceIte,e1,Int.toNat_natCast,B.wsucc (show t<9223372036854775807 by omega),QvO (mA m) (mB m) (show t<(mA m).length by rw [Qce];exact hlt) (by rw [Qce,Qc4])]
  exact ih (t+1) (by omega)
theorem QkT (l:List S38):(Qcy l).Nodup:=(QdI l).1.nodup_iff.2 List.nodup_range'
theorem QjD {l:List S38} {x:Nat} : x∈Qcy l↔x<l.length:=by rw [(QdI l).1.mem_iff,List.mem_range'_1];omega
theorem QvW (hM:Mp a b m) {F:Nat→Int} (hF:∀ i,i<m.length→F ((mA m).getD i 0)=lab b ((mB m).getD i 0)) (hFo:∀ x,x<a.length→0≤F x∧F x≤5) (a0:List S38) {nr:Nat} (hnr:nr≤24):∀ (d t nd:Nat) (S:List Nat) (ops:List S67) (n:Int),t+d=(Qcy a).length→nd≤t→Sub a.length S→(∀ x,x<a.length→(x∈S↔x∈mA m∨x∉(Qcy a).take t)) →
 Ed c a0 (cut a F S) ops nr nd 0 n →
 B.EvP (fun k=>Qa.l2 k b m (nI (QaF a.length (mA m))) (nI (Qcy a)) ((nI (Qcy a)).length:Int) (t:Int) a (cut a F S) (nI S) ops)
  (fun v=>Ed c a0 b v nr (nd+(((Qcy a).drop t).filter fun x=>decide (x∉mA m)).length) (QaF b.length (mB m)).length (n+Qcx (fun x=>c.d (F x)) (((Qcy a).drop t).filter fun x=>decide (x∉mA m))+QcA c b (QaF b.length (mB m)))):=by
 have ha:=QaT hM.ta
 have hpl:(Qcy a).length=a.length:=(QdI a).len
 intro d
 induction d with
 | zero =>
  intro t nd S ops n ht hnd hS hmem he
  obtain rfl:t=(Qcy a).length:=by omega
  have hSA:S=mA m:=Qeb hS.1 hM.sA.1 fun x=>by
   constructor
   ·intro hx
    have hxl:=hS.2.1 x hx
    rcases (hmem x hxl).1 hx with q|q
    ·exact q
    ·rw [List.take_length] at q;exact absurd (QjD.2 hxl) q
   ·intro hx;exact (hmem x (hM.sA.2.1 x hx)).2 (.inl hx)
  subst hSA
  refine B.EvP.succ ?_
  rw [List.drop_length]
  simp only [Qa.l2,QcK,Int.lt_irrefl, ↓reduceIte,List.filter_nil,List.length_nil,Nat.add_zero,Qcx,Int.add_zero]
  have:=QyH hM hF a0 (by omega) he m.length 0 (by omega)
  rw [List.take_zero,List.nil_append,List.drop_zero] at this
  rw [Qce]
  exact this
 | succ d ih =>
  intro t nd S ops n ht hnd hS hmem he
  have htl:t<(Qcy a).length:=by omega
  generalize hx':(Qcy a)[t]=x
  have hxa:x<a.length:=QjD.1 (hx'▸List.getElem_mem htl)
  have hnt:x∉(Qcy a).take t:=fun h=>by
   obtain ⟨i,hi,e⟩:=List.getElem_of_mem h
   rw [List.length_take] at hi
   rw [List.getElem_take, ←hx'] at e
   have:=(List.getElem_inj (QkT a)).1 e
   omega
  have hrd:rd (nI (Qcy a)) (t:Int)=(x:Int):=by rw [Qmw htl,B.getD_lt htl,hx']
  have hdrop:(Qcy a).drop t=x::(Qcy a).drop (t+1):=by rw [List.drop_eq_getElem_cons htl,hx']
  have hfl:(QaF a.length (mA m)).length≤a.length:=Qds (QdM _ _) fun x hx=>(QcH.1 hx).1
  have hsl:S.length≤24:=by have:=Qds hS.1 hS.2.1;omega
  refine B.EvP.succ ?_
  simp only [Qa.l2,show (t:Int)<((nI (Qcy a)).length:Int) by rw [QcK];omega,show 0≤(t:Int) by omega,hrd, ↓reduceIte,B.wsucc (show t<9223372036854775807 by omega)]
  refine B.EvP.bind (B.EvP.of (Qk9 (QdM _ _) (by omega) x) rfl) ?_
  rintro _ rfl
  rw [hdrop]
  by_cases q:x∈mA m
  ·have q1:x∉QaF a.length (mA m):=fun h=>(QcH.1 h).2 q
   simp only [q1,decide_false,Bool.false_eq_true, ↓reduceIte]
   rw [List.filter_cons_of_neg (by simpa using q)]
   refine ih (t+1) nd S ops n (by omega) (by omega) hS (fun y hy => ?_) he
   rw [hmem y hy,QdV htl,hx',List.mem_append,List.mem_singleton]
   by_cases e:y=x
   ·subst e;simp [q]
   ·simp [e]
  ·have q1:x∈QaF a.length (mA m):=QcH.2 ⟨hxa,q⟩
   have h0:x≠0:=fun e=>q (e▸hM.sA.2.2)
   have hxS:x∈S:=(hmem x hxa).2 (.inr hnt)
   have hfo:∀ y∈S,0≤F y∧F y≤5:=fun y hy=>hFo y (hS.2.1 y hy)
   simp only [q1,decide_true, ↓reduceIte]
   refine B.EvP.bind (B.EvP.of (Qty (ops:=ops) hM.ta hS hfo hxS h0 (by have:=he.len;omega)) rfl) ?_
   rintro _ rfl
   rw [List.filter_cons_of_pos (by simpa using q)]
   refine (ih (t+1) (nd+1) (X.del S x) _ _ (by omega) (by omega) (hS.del h0) (fun y hy => ?_) (he.del hM.ta hS hfo hxS h0)).mono fun v hv => ?_
   ·rw [QiW,hmem y hy,QdV htl,hx',List.mem_append,List.mem_singleton]
    by_cases e:y=x
    ·subst e;simp [q]
    ·simp [e]
   ·have e1:nd+1+(((Qcy a).drop (t+1)).filter fun x=>decide (x∉mA m)).length=nd+(x::((Qcy a).drop (t+1)).filter fun x=>decide (x∉mA m)).length:=by rw [List.length_cons];omega
    have e2:n+c.d (F x)+Qcx (fun x=>c.d (F x)) (((Qcy a).drop (t+1)).filter fun x=>decide (x∉mA m))+QcA c b (QaF b.length (mB m))=n+Qcx (fun x=>c.d (F x)) (x::((Qcy a).drop (t+1)).filter fun x=>decide (x∉mA m))+QcA c b (QaF b.length (mB m)):=by simp only [Qcx];omega
    rw [e1,e2] at hv;exact hv
end
end Go.Proofs.YtallpjhkmcgpoaaGreat.X
end
section
namespace Go.Proofs.YtallpjhkmcgpoaaGreat.X
open Go Go.RowKit Go.Proofs.YtallpjhkmcgpoaaGreat.V Go.Proofs.YtallpjhkmcgpoaaGreat.P
theorem Qgs {α:Type} {g g':α→Int} : ∀ {l:List α}, (∀ x∈l,g x=g' x)→Qcx g l=Qcx g' l
 | [],_=>rfl
 | x::l,h=>by simp only [Qcx];rw [h x (List.mem_cons_self ..),Qgs fun y hy=>h y (List.mem_cons_of_mem _ hy)]
def dif (a b:List S38) (p:S40):Bool:=decide (lab b p.f1.toNat≠lab a p.f0.toNat)
def QhD (c:Cst) (a b:List S38) (p:S40):Int:=c.r (lab a p.f0.toNat) (lab b p.f1.toNat)
section
variable {c:Cst} {a b:List S38} {m:List S40}
theorem QvU (hM:Mp a b m):∀ (d t nr:Nat) (F:Nat→Int) (ops:List S67) (n:Int),t+d=m.length→nr≤t→(∀ i,i<t→F ((mA m).getD i 0)=lab b ((mB m).getD i 0))→(∀ x,x<a.length→(∀ i,i<t→(mA m).getD i 0≠x)→F x=lab a x)→(∀ x,x<a.length→0≤F x∧F x≤5) →
 Ed c a (cut a F (List.range a.length)) ops nr 0 0 n →
 B.EvP (fun k=>Qa.l1 k a b m m (m.length:Int) (t:Int) (cut a F (List.range a.length)) (nI (List.range a.length)) ops)
  (fun v=>Ed c a b v (nr+((m.drop t).filter (dif a b)).length) (QaF a.length (mA m)).length (QaF b.length (mB m)).length (n+Qcx (QhD c a b) ((m.drop t).filter (dif a b))+Qcx (fun x=>c.d (lab a x)) (QaF a.length (mA m))+QcA c b (QaF b.length (mB m)))):=by
 have ha:=QaT hM.ta
 have hml:m.length≤24:=by have:=Qds hM.sA.1 hM.sA.2.1;rw [Qce] at this;omega
 have hposA:∀ p∈m,0≤p.f0:=fun p hp=>by
  obtain ⟨i,hi,e⟩:=List.getElem_of_mem hp
  have:=hM.eA i hi
  unfold pA at this
  rw [B.getD_lt hi,e] at this
  omega
 have hfull:Sub a.length (List.range a.length):=⟨List.pairwise_lt_range,fun x hx=>List.mem_range.1 hx,by rw [List.mem_range];omega⟩
 intro d
 induction d with
 | zero =>
  intro t nr F ops n ht hnr h1 h2 h3 he
  obtain rfl:t=m.length:=by omega
  refine B.EvP.succ ?_
  rw [List.drop_length]
  simp only [Qa.l1,Int.lt_irrefl, ↓reduceIte,List.filter_nil,List.length_nil,Nat.add_zero,Qcx,Int.add_zero]
  refine B.EvP.bind (B.EvP.of (QgL (by omega) (by omega) hposA) rfl) ?_
  rintro _ rfl
  refine B.EvP.bind (B.EvP.of (Qtr a (by omega)) rfl) ?_
  rintro _ rfl
  have hpI:Qha a=nI (Qcy a):=by unfold Qha;rw [if_pos hM.ta]
  rw [hpI]
  have:=QvW (c:=c) hM h1 h3 a (by omega) (Qcy a).length 0 0 (List.range a.length) ops n (by omega) (by omega) hfull (fun x hx=>by simp [hx]) he
  refine this.mono fun v hv => ?_
  rw [List.drop_zero] at hv
  have hp:((Qcy a).filter fun x=>decide (x∉mA m)).Perm (QaF a.length (mA m)):=by
   unfold QaF
   refine List.Perm.filter _ ?_
   have:=(QdI a).1
   rwa [Nat.sub_zero, ←List.range_eq_range'] at this
  have hl:=hp.length_eq
  have e1:Qcx (fun x=>c.d (F x)) ((Qcy a).filter fun x=>decide (x∉mA m))=Qcx (fun x=>c.d (lab a x)) (QaF a.length (mA m)):=by
   rw [QlG _ hp]
   refine Qgs fun x hx => ?_
   obtain ⟨q1,q2⟩:=QcH.1 hx
   rw [h2 x q1 fun i hi e=>q2 (by rw [←e];exact Qbt (by rw [Qce];exact hi))]
  rw [hl,e1,Nat.zero_add] at hv
  exact hv
 | succ d ih =>
  intro t nr F ops n ht hnr h1 h2 h3 he
  have htl:t<m.length:=by omega
  have hxa:(mA m).getD t 0<a.length:=hM.sA.2.1 _ (Qbt (by rw [Qce];exact htl))
  have hyb:(mB m).getD t 0<b.length:=hM.sB.2.1 _ (Qbt (by rw [Qc4];exact htl))
  have eA:(Qah m (t:Int)).f0=(((mA m).getD t 0:Nat):Int):=by rw [Qc3];exact hM.eA t htl
  have eB:(Qah m (t:Int)).f1=(((mB m).getD t 0:Nat):Int):=by rw [Qc3];exact hM.eB t htl
  have hne:∀ i,i<t→(mA m).getD i 0≠(mA m).getD t 0:=fun i hi e=>by
   have:=Qes hM.sA.1 hi (by rw [Qce];exact htl);omega
  have hdrop:m.drop t=m[t]::m.drop (t+1):=List.drop_eq_getElem_cons htl
  have hdA:m[t].f0.toNat=(mA m).getD t 0:=by have:=Qs4 htl;unfold pA at this;rw [B.getD_lt htl] at this;exact this.symm
  have hdB:m[t].f1.toNat=(mB m).getD t 0:=by have:=Qs3 htl;unfold pB at this;rw [B.getD_lt htl] at this;exact this.symm
  have hd:dif a b m[t]=decide (lab b ((mB m).getD t 0)≠lab a ((mA m).getD t 0)):=by unfold dif;rw [hdA,hdB]
  have hr:QhD c a b m[t]=c.r (lab a ((mA m).getD t 0)) (lab b ((mB m).getD t 0)):=by unfold QhD;rw [hdA,hdB]
  have hFx:=h2 _ hxa hne
  have hm1:∀ i,i<t→(mA m).getD i 0≠(mA m).getD t 0:=hne
  generalize hx:(mA m).getD t 0=x at *
  generalize hy:(mB m).getD t 0=y at *
  have lx:(Qac a (x:Int)).f0=lab a x:=by rw [QbI];rfl
  have ly:(Qac b (y:Int)).f0=lab b y:=by rw [QbI];rfl
  rw [hdrop]
  refine B.EvP.succ ?_
  simp only [Qa.l1,show (t:Int)<(m.length:Int) by omega,show 0≤(t:Int) by omega,eA,eB,show 0≤(x:Int) by omega,show 0≤(y:Int) by omega,show (x:Int)<(a.length:Int) by omega,show (y:Int)<(b.length:Int) by omega,lx,ly, ↓reduceIte,B.wsucc (show t<9223372036854775807 by omega)]
  by_cases q:lab b y=lab a x
  ·rw [List.filter_cons_of_neg (by rw [hd];simp [q])]
   simp only [q, ↓reduceIte]
   refine ih (t+1) nr F ops n (by omega) (by omega) (fun i hi => ?_) (fun z hz hzn=>h2 z hz fun i hi=>hzn i (by omega)) h3 he
   rcases Nat.lt_or_ge i t with e|e
   ·exact h1 i e
   ·obtain rfl:i=t:=by omega
    rw [hx,hy,hFx,q]
  ·rw [List.filter_cons_of_pos (by rw [hd];simp [q])]
   simp only [q, ↓reduceIte]
   have hxr:x∈List.range a.length:=List.mem_range.2 hxa
   have hfo:∀ z∈List.range a.length,0≤F z∧F z≤5:=fun z hz=>h3 z (List.mem_range.1 hz)
   have hlb:=Qez hM.tb hyb
   refine B.EvP.bind (B.EvP.of (Qtw (ops:=ops) hM.ta hfull hfo hxr hlb (by have:=he.len;omega)) rfl) ?_
   rintro _ rfl
   refine (ih (t+1) (nr+1) (upd F x (lab b y)) _ _ (by omega) (by omega) (fun i hi => ?_) (fun z hz hzn => ?_) (fun z hz => ?_) (he.rel hM.ta hfull hfo hxr hlb)).mono fun v hv => ?_
   ·unfold upd
    rcases Nat.lt_or_ge i t with e|e
    ·rw [if_neg (hm1 i e)];exact h1 i e
    ·obtain rfl:i=t:=by omega
     rw [hx,hy,if_pos rfl]
   ·unfold upd
    have:z≠x:=fun e=>hzn t (by omega) (by rw [hx,e])
    rw [if_neg this];exact h2 z hz fun i hi=>hzn i (by omega)
   ·unfold upd
    by_cases e:z=x
    ·rw [if_pos e];exact hlb
    ·rw [if_neg e];exact h3 z hz
   ·have e1:nr+1+((m.drop (t+1)).filter (dif a b)).length=nr+(m[t]::(m.drop (t+1)).filter (dif a b)).length:=by rw [List.length_cons];omega
    have e2:n+c.r (F x) (lab b y)+Qcx (QhD c a b) ((m.drop (t+1)).filter (dif a b))=n+Qcx (QhD c a b) (m[t]::(m.drop (t+1)).filter (dif a b)):=by simp only [Qcx];rw [hFx,hr];omega
    rw [e1,e2] at hv;exact hv
def Qyu (c:Cst) (a b:List S38) (m:List S40) (v:List S67):Prop :=
 Ed c a b v (m.filter (dif a b)).length (QaF a.length (mA m)).length (QaF b.length (mB m)).length (Qcx (QhD c a b) (m.filter (dif a b))+Qcx (fun x=>c.d (lab a x)) (QaF a.length (mA m))+QcA c b (QaF b.length (mB m)))
theorem QyV (hM:Mp a b m):B.EvP (fun k=>Qa.l0 k a b m (a.length:Int) 0 a [] ([]:List S67)) (Qyu c a b m):=by
 have ha:=QaT hM.ta
 have key:∀ d t:Nat,t+d=a.length→B.EvP (fun k=>Qa.l0 k a b m (a.length:Int) (t:Int) a (nI (List.range t)) ([]:List S67)) (Qyu c a b m):=by
  intro d
  induction d with
  | zero =>
   intro t ht
   obtain rfl:t=a.length:=by omega
   refine B.EvP.succ ?_
   simp only [Qa.l0,Int.lt_irrefl, ↓reduceIte]
   have:=QvU (c:=c) hM m.length 0 0 (lab a) [] 0 (by omega) (by omega) (fun i hi=>absurd hi (by omega)) (fun x _ _=>rfl) (fun x hx=>Qez hM.ta hx) (by rw [Qhm hM.ta];exact Ed.nil c a)
   rw [Qhm hM.ta,List.drop_zero,Nat.zero_add,Int.zero_add] at this
   exact this
  | succ d ih =>
   intro t ht
   refine B.EvP.succ ?_
   have e:nI (List.range (t+1))=nI (List.range t)++[(t:Int)]:=by unfold nI;rw [List.range_succ,List.map_append];rfl
   simp only [Qa.l0,show (t:Int)<(a.length:Int) by omega,QcK,List.length_range,show t<17592186044416 by omega, ↓reduceIte,B.wsucc (show t<9223372036854775807 by omega), ←e]
   exact ih (t+1) (by omega)
 exact key a.length 0 (by omega)
end
def Qed (m:List S40):Bool:=decide (0<m.length∧pA m 0=0∧pB m 0=0)
theorem QsU (m:List S40):QaE.f m=some (Qed m):=by
 unfold Qed
 simp only [QaE.f]
 by_cases h:0<m.length
 ·have e:Qah m 0=m.getD 0 z40:=rfl
  simp only [show (m.length:Int) > 0 by omega,show (0:Int)<(m.length:Int) by omega, ↓reduceIte,e,h,true_and]
  unfold pA pB
  rw [←Bool.decide_and]
 ·simp only [show ¬((m.length:Int) > 0) by omega, ↓reduceIte,h,false_and,decide_false]
theorem Qts (c:Cst) (a b:List S38) (m:List S40) (ha:a.length≤4194304) (hb:b.length≤4194304) (hm:m.length≤4194304) :
 B.EvP (fun k=>Qa.f k a b m) (fun v=>if (okM a b m && Qed m)=true then Mp a b m∧Qyu c a b m v else v=[]):=by
 simp only [Qa.f,QsU,Option.bind_some]
 refine B.EvP.bind (B.EvP.of (Qkk a b m ha hb hm) rfl) ?_
 rintro _ rfl
 by_cases h1:okM a b m=true
 ·rw [h1]
  simp only [↓reduceIte,Bool.true_and]
  by_cases h2:Qed m=true
  ·rw [h2]
   simp only [↓reduceIte]
   have hp:=of_decide_eq_true h2
   have hM:=QvK h1 hp.1 hp.2.1 hp.2.2
   refine B.EvP.bind (P:=fun t=>t=a) ?_ ?_
   ·simp only [Qz.f,show a.length * 16≤140737488355328 by omega, ↓reduceIte]
    exact B.EvP.pure rfl
   ·rintro _ rfl
    exact (QyV hM).mono fun v hv=>⟨hM,hv⟩
  ·rw [Bool.not_eq_true] at h2
   rw [h2]
   simp only [Bool.false_eq_true, ↓reduceIte]
   exact B.EvP.pure rfl
 ·rw [Bool.not_eq_true] at h1
  rw [h1]
  simp only [Bool.false_eq_true, ↓reduceIte,Bool.false_and]
  exact B.EvP.pure rfl
end Go.Proofs.YtallpjhkmcgpoaaGreat.X
end
section
namespace Go.Proofs.YtallpjhkmcgpoaaGreat.X
open Go Go.RowKit Go.Proofs.YtallpjhkmcgpoaaGreat.V Go.Proofs.YtallpjhkmcgpoaaGreat.P
def Qd7 (l:List Int) (n:Nat):Bool:=decide (l.length=n) && !(l.any fun x => !decide (0≤x∧x≤1000))
theorem Qcz {l:List Int} {n:Nat} : Qd7 l n=true↔l.length=n∧∀ x∈l,0≤x∧x≤1000:=by
 unfold Qd7;simp
def Qlo (r:List Int) (n:Nat):Bool:=(List.range n).all fun a=>decide (r.getD (7 * a) 0=0)
def okC (d i r:List Int):Bool:=(Qd7 d 6 && Qd7 i 6 && Qd7 r 36) && Qlo r 6
theorem rdI (l:List Int) (i:Nat):rd l (i:Int)=l.getD i 0:=by unfold rd;rw [Int.toNat_natCast]
theorem QnH (l:List Int) (n:Nat) (hl:l.length≤4194304):B.Ev (fun k=>Q7.f k l (n:Int)) (Qd7 l n):=by
 simp only [Q7.f]
 have h:=B.Ev.loop (g:=fun k i=>Q7.l0 k l (n:Int) (i:Int)) (v:=Qd7 l n) l.length (fun i=>∀ j,j<i→0≤l.getD j 0∧l.getD j 0≤1000) (fun hI => ?_) (fun i hi hI ih => ?_) 0 (Nat.zero_le _) (fun j hj=>absurd hj (Nat.not_lt_zero _))
 ·exact h
 ·refine B.Ev.succ ?_
  simp only [Q7.l0,Int.lt_irrefl, ↓reduceIte]
  refine (B.Ev.pure _).eq ?_
  rw [Bool.eq_iff_iff,Qcz,beq_iff_eq]
  refine ⟨fun e=>⟨by omega,fun x hx => ?_⟩,fun e=>by omega⟩
  obtain ⟨j,hj,e⟩:=List.getElem_of_mem hx
  have:=hI j hj
  rw [B.getD_lt hj,e] at this
  exact this
 ·refine B.Ev.succ ?_
  simp only [Q7.l0,show (i:Int)<(l.length:Int) by omega,show 0≤(i:Int) by omega, ↓reduceIte,B.wsucc (show i<9223372036854775807 by omega),rdI,Qos,Option.bind_some]
  by_cases c:0≤l.getD i 0∧l.getD i 0≤1000
  ·simp only [c,and_self,decide_true, ↓reduceIte]
   refine ih fun j hj => ?_
   rcases Nat.lt_or_ge j i with q|q
   ·exact hI j q
   ·obtain rfl:j=i:=by omega
    exact c
  ·simp only [c,decide_false,Bool.false_eq_true, ↓reduceIte]
   refine (B.Ev.pure _).eq ?_
   rw [eq_comm,Bool.eq_false_iff]
   intro q
   exact c ((Qcz.1 q).2 _ (by rw [B.getD_lt hi];exact List.getElem_mem hi))
theorem Qtt (l:List Int) (hl:l.length≤4194304):∃ r:Int,B.Ev (fun k=>Qn.f k l) r∧decide (r≥0)=l.any fun x => !decide (0≤x∧x≤1000):=by
 simp only [Qn.f]
 have key:∀ n p:Nat,p+n=l.length→∃ r:Int,B.Ev (fun k=>Qn.l0 k l (l.length:Int) (p:Int)) r∧decide (r≥0)=(l.drop p).any fun x => !decide (0≤x∧x≤1000):=by
  intro n
  induction n with
  | zero =>
   intro p hp
   refine ⟨-1,B.Ev.succ ?_,by rw [List.drop_eq_nil_of_le (by omega)];rfl⟩
   simp only [Qn.l0,show ¬((p:Int)<(l.length:Int)) by omega, ↓reduceIte]
   exact B.Ev.pure _
  | succ n ih =>
   intro p hp
   have hlt:p<l.length:=by omega
   have e:rd l (p:Int)=l[p]:=by rw [rdI];exact B.getD_lt hlt
   rw [List.drop_eq_getElem_cons hlt,List.any_cons]
   by_cases c:0≤l[p]∧l[p]≤1000
   ·obtain ⟨r,h1,h2⟩:=ih (p+1) (by omega)
    refine ⟨r,B.Ev.succ ?_,by rw [h2];simp [c]⟩
    simp only [Qn.l0,show (p:Int)<(l.length:Int) by omega,show 0≤(p:Int) by omega, ↓reduceIte,e,Qap.f,Qd3,Option.bind_some,c,and_self,decide_true,Bool.not_true,Bool.false_eq_true,B.wsucc (show p<9223372036854775807 by omega)]
    exact h1
   ·refine ⟨(p:Int),B.Ev.succ ?_,by simp [c]⟩
    simp only [Qn.l0,show (p:Int)<(l.length:Int) by omega,show 0≤(p:Int) by omega, ↓reduceIte,e,Qap.f,Qd3,Option.bind_some,c,decide_false,Bool.not_false]
    exact B.Ev.pure _
 have:=key l.length 0 (by omega)
 rw [List.drop_zero] at this
 exact this
theorem Qhp (l:List Int) (n:Nat) (hl:l.length≤4194304):B.Ev (fun k=>QaG.f k l (n:Int)) (Qd7 l n):=by
 simp only [QaG.f]
 by_cases h:l.length=n
 ·simp only [show (l.length:Int)=(n:Int) by omega, ↓reduceIte,Q1.f]
  obtain ⟨r,h1,h2⟩:=Qtt l hl
  refine B.Ev.bind (B.Ev.bind h1 (B.Ev.pure _)) ?_
  refine (B.Ev.pure _).eq ?_
  unfold Qd7
  rw [h2,decide_eq_true h,Bool.true_and]
 ·simp only [show ¬(l.length:Int)=(n:Int) by omega, ↓reduceIte]
  refine (B.Ev.pure _).eq ?_
  unfold Qd7;rw [decide_eq_false h,Bool.false_and]
theorem QnW (i:Nat) (hi:i<6):wrap64 (wrap64 ((i:Int) * 6)+(i:Int))=((7 * i:Nat):Int):=by unfold wrap64;omega
theorem Qir (r:List Int) (n:Nat):Qlo r (n+1)=(Qlo r n && decide (r.getD (7 * n) 0=0)):=by unfold Qlo;rw [List.range_succ,List.all_append];simp
theorem QgQ {r:List Int} {i n:Nat} (h:r.getD (7 * i) 0≠0) (hi:i<n):Qlo r n=false:=by
 rw [Bool.eq_false_iff];intro hc;unfold Qlo at hc
 have:=List.all_eq_true.1 hc i (List.mem_range.2 hi)
 simp only [decide_eq_true_eq] at this
 exact h this
theorem QrC (d i r:List Int) (hr:r.length=36):B.Ev (fun k=>QX.l0 k d i r 0) (Qlo r 6)∧B.Ev (fun k=>QP.l0 k d i r 0) (Qlo r 6):=by
 constructor
 ·refine B.Ev.loop (g:=fun k j=>QX.l0 k d i r (j:Int)) 6 (fun j=>Qlo r j=true) (fun hI => ?_) (fun j hj hI ih => ?_) 0 (by omega) rfl
  ·refine B.Ev.succ ?_
   simp only [QX.l0,show ¬(((6:Nat):Int)<6) by decide, ↓reduceIte]
   exact (B.Ev.pure _).eq hI.symm
  ·refine B.Ev.succ ?_
   simp only [QX.l0,show (j:Int)<6 by omega,QnW j hj,show 0≤((7 * j:Nat):Int) by omega,show ((7 * j:Nat):Int)<(r.length:Int) by omega, ↓reduceIte,rdI,B.wsucc (show j<9223372036854775807 by omega)]
   by_cases c:r.getD (7 * j) 0=0
   ·simp only [c, ↓reduceIte];exact ih (by rw [Qir,hI,decide_eq_true c];rfl)
   ·simp only [c, ↓reduceIte];exact (B.Ev.pure _).eq (QgQ c hj).symm
 ·refine B.Ev.loop (g:=fun k j=>QP.l0 k d i r (j:Int)) 6 (fun j=>Qlo r j=true) (fun hI => ?_) (fun j hj hI ih => ?_) 0 (by omega) rfl
  ·refine B.Ev.succ ?_
   simp only [QP.l0,show ¬(((6:Nat):Int)<6) by decide, ↓reduceIte]
   exact (B.Ev.pure _).eq hI.symm
  ·refine B.Ev.succ ?_
   simp only [QP.l0,show (j:Int)<6 by omega,QnW j hj,show 0≤((7 * j:Nat):Int) by omega,show ((7 * j:Nat):Int)<(r.length:Int) by omega, ↓reduceIte,rdI,B.wsucc (show j<9223372036854775807 by omega)]
   by_cases c:r.getD (7 * j) 0=0
   ·simp only [c, ↓reduceIte];exact ih (by rw [Qir,hI,decide_eq_true c];rfl)
   ·simp only [c, ↓reduceIte];exact (B.Ev.pure _).eq (QgQ c hj).symm
theorem QpM (d i r:List Int) (hd:d.length≤4194304) (hi:i.length≤4194304) (hr:r.length≤4194304):B.Ev (fun k=>QX.f k d i r) (okC d i r):=by
 simp only [QX.f]
 refine B.Ev.bind (QnH d 6 hd) ?_
 refine B.Ev.ite (fun h1 => ?_) (fun h1=>(B.Ev.pure _).eq (by unfold okC;simp [h1]))
 refine B.Ev.bind (QnH i 6 hi) ?_
 refine B.Ev.ite (fun h2 => ?_) (fun h2=>(B.Ev.pure _).eq (by unfold okC;simp [h2]))
 refine B.Ev.bind (QnH r 36 hr) ?_
 refine B.Ev.ite (fun h3 => ?_) (fun h3=>(B.Ev.pure _).eq (by unfold okC;simp [h3]))
 exact (QrC d i r (Qcz.1 h3).1).1.eq (by unfold okC;simp [h1,h2,h3])
theorem QdN (d i r:List Int) (hd:d.length≤4194304) (hi:i.length≤4194304) (hr:r.length≤4194304):B.Ev (fun k=>QP.f k d i r) (okC d i r):=by
 simp only [QP.f]
 refine B.Ev.bind (Qhp d 6 hd) ?_
 refine B.Ev.ite (fun h1 => ?_) (fun h1=>(B.Ev.pure _).eq (by unfold okC;simp [h1]))
 refine B.Ev.bind (Qhp i 6 hi) ?_
 refine B.Ev.ite (fun h2 => ?_) (fun h2=>(B.Ev.pure _).eq (by unfold okC;simp [h2]))
 refine B.Ev.bind (Qhp r 36 hr) ?_
 refine B.Ev.ite (fun h3 => ?_) (fun h3=>(B.Ev.pure _).eq (by unfold okC;simp [h3]))
 exact (QrC d i r (Qcz.1 h3).1).2.eq (by unfold okC;simp [h1,h2,h3])
theorem Qcs {d i r:List Int} (h:okC d i r=true):(d.length=6∧∀ x∈d,0≤x∧x≤1000)∧(i.length=6∧∀ x∈i,0≤x∧x≤1000)∧(r.length=36∧∀ x∈r,0≤x∧x≤1000)∧Qlo r 6=true:=by
 unfold okC at h
 simp only [Bool.and_eq_true] at h
 exact ⟨Qcz.1 h.1.1.1,Qcz.1 h.1.1.2,Qcz.1 h.1.2,h.2⟩
theorem Qe0 {l:List Int} (h:∀ x∈l,0≤x∧x≤1000) (i:Nat):0≤l.getD i 0∧l.getD i 0≤1000:=by
 rcases Nat.lt_or_ge i l.length with hi|hi
 ·rw [B.getD_lt hi];exact h _ (List.getElem_mem hi)
 ·rw [List.getD_eq_getElem?_getD,List.getElem?_eq_none hi];simp
def prC (d i r:List Int):Cst:=⟨fun x=>d.getD x.toNat 0,fun x=>i.getD x.toNat 0,fun x y=>r.getD (x * 6+y).toNat 0⟩
section
variable {d i r:List Int}
theorem Qo2 (h:okC d i r=true) (x:Int):0≤(prC d i r).d x∧(prC d i r).d x≤1000:=Qe0 (Qcs h).1.2 _
theorem Qo1 (h:okC d i r=true) (x:Int):0≤(prC d i r).i x∧(prC d i r).i x≤1000:=Qe0 (Qcs h).2.1.2 _
theorem Qvq (h:okC d i r=true) (x y:Int):0≤(prC d i r).r x y∧(prC d i r).r x y≤1000:=Qe0 (Qcs h).2.2.1.2 _
theorem Qo0 (h:okC d i r=true) {x:Int} (hx:0≤x∧x≤5):(prC d i r).r x x=0:=by
 have h2:=(Qcs h).2.2.2
 unfold Qlo at h2
 have:=List.all_eq_true.1 h2 x.toNat (List.mem_range.2 (by omega))
 rw [decide_eq_true_eq] at this
 show r.getD (x * 6+x).toNat 0=0
 rwa [show (x * 6+x).toNat=7 * x.toNat by omega]
theorem QwM (h:okC d i r=true) {x:Int} (hx:0≤x∧x≤5):B.Ev (fun k=>Qa6.f k d i r x) ((prC d i r).d x):=by
 have hp:=Qcs h
 simp only [Qa6.f]
 refine B.Ev.bind (QdN d i r (by omega) (by omega) (by omega)) ?_
 simp only [h, ↓reduceIte,QcW,Option.bind_some,hx,and_self,decide_true,hp.1.1,show x<((6:Nat):Int) by omega]
 exact B.Ev.pure _
theorem QwK (h:okC d i r=true) {x:Int} (hx:0≤x∧x≤5):B.Ev (fun k=>Qa5.f k d i r x) ((prC d i r).i x):=by
 have hp:=Qcs h
 simp only [Qa5.f]
 refine B.Ev.bind (QdN d i r (by omega) (by omega) (by omega)) ?_
 simp only [h, ↓reduceIte,QcW,Option.bind_some,hx,and_self,decide_true,hp.2.1.1,show x<((6:Nat):Int) by omega]
 exact B.Ev.pure _
theorem QrB (h:okC d i r=true) {x y:Int} (hx:0≤x∧x≤5) (hy:0≤y∧y≤5):B.Ev (fun k=>QaV.f k d i r x y) ((prC d i r).r x y):=by
 have hp:=Qcs h
 have e:wrap64 (wrap64 (x * 6)+y)=x * 6+y:=by unfold wrap64;omega
 simp only [QaV.f]
 refine B.Ev.bind (QdN d i r (by omega) (by omega) (by omega)) ?_
 simp only [h, ↓reduceIte,QcW,Option.bind_some,hx,hy,and_self,decide_true,e,hp.2.2.1.1,show 0≤x * 6+y by omega,show x * 6+y<((36:Nat):Int) by omega]
 exact B.Ev.pure _
end
end Go.Proofs.YtallpjhkmcgpoaaGreat.X
end
section
namespace Go.Proofs.YtallpjhkmcgpoaaGreat.X
open Go Go.RowKit Go.Proofs.YtallpjhkmcgpoaaGreat.V Go.Proofs.YtallpjhkmcgpoaaGreat.P
theorem QlJ:∀ (rest pre:List Int),pre.length+rest.length≤4194304→B.Ev (fun k=>QZ.l0 k (pre++rest) (pre.length:Int)) (QhZ rest && decide ((pre++rest).length≤12)):=by
 intro rest
 induction rest with
 | nil =>
  intro pre hl
  refine B.Ev.succ ?_
  simp only [QZ.l0,List.append_nil,Int.lt_irrefl, ↓reduceIte,QhZ,List.all_nil,Bool.true_and,show ((pre.length:Int)≤12)=(pre.length≤12) from propext (by omega)]
  exact B.Ev.pure _
 | cons x rest ih =>
  intro pre hl
  have hlt:(pre.length:Int)<((pre++x::rest).length:Int):=by rw [List.length_append,List.length_cons];omega
  rw [List.length_cons] at hl
  have ih:=ih (pre++[x]) (by rw [List.length_append,List.length_singleton];omega)
  rw [QBi,show (pre++[x]).length=pre.length+1 by simp] at ih
  refine B.Ev.succ ?_
  simp only [QZ.l0,hlt,show 0≤(pre.length:Int) by omega, ↓reduceIte,QyC,Qos,Option.bind_some,decide_eq_true_eq,B.wsucc (show pre.length<9223372036854775807 by omega),QhZ,List.all_cons]
  by_cases c:0≤x∧x≤24
  ·simp only [c,and_self, ↓reduceIte,decide_true,Bool.true_and]
   exact ih
  ·simp only [c, ↓reduceIte,decide_false,Bool.false_and]
   exact B.Ev.pure _
theorem QoI (l:List Int) (hl:l.length≤4194304):B.Ev (fun k=>QZ.f k l) (QhZ l && decide (l.length≤12)):=QlJ l [] (by simpa using hl)
theorem QoJ (o:S67) (hl:o.f1.length≤4194304):B.Ev (fun k=>QbH.f k o.f0 o.f1 o.f2 o.f3 o.f4) (okO o):=by
 simp only [QbH.f,Qec,Qos,Option.bind_some,decide_eq_true_eq]
 refine B.Ev.bind (QoI o.f1 hl) ?_
 refine B.Ev.of 0 (fun k _ => ?_)
 simp only [okO]
 generalize (QhZ o.f1 && decide (o.f1.length≤12))=p
 cases p
 ·simp
 ·by_cases c1:o.f0=1
  ·by_cases c2:0≤o.f2∧o.f2≤5 <;> by_cases c3:o.f3=0 <;> simp [c1,c2,c3]
  ·by_cases c4:o.f0=2
   ·by_cases c2:o.f2=0 <;> by_cases c3:o.f3=0 <;> simp [c4,c2,c3]
   ·by_cases c5:o.f0=3
    ·by_cases c2:0≤o.f2∧o.f2≤5 <;> by_cases c3:0≤o.f3∧o.f3≤24 <;> simp [c5,c2,c3]
    ·simp [c1,c4,c5]
theorem QoH:∀ (rest pre:List S67),pre.length+rest.length≤4194304→(∀ o∈rest,o.f1.length≤4194304)→B.Ev (fun k=>QT.l0 k (pre++rest) (pre.length:Int)) (rest.all okO && decide ((pre++rest).length≤60)):=by
 intro rest
 induction rest with
 | nil =>
  intro pre hl _
  refine B.Ev.succ ?_
  simp only [QT.l0,List.append_nil,Int.lt_irrefl, ↓reduceIte,List.all_nil,Bool.true_and,show ((pre.length:Int)≤60)=(pre.length≤60) from propext (by omega)]
  exact B.Ev.pure _
 | cons x rest ih =>
  intro pre hl hx
  have hlt:(pre.length:Int)<((pre++x::rest).length:Int):=by rw [List.length_append,List.length_cons];omega
  rw [List.length_cons] at hl
  have ih:=ih (pre++[x]) (by rw [List.length_append,List.length_singleton];omega) (fun y hy=>hx y (List.mem_cons_of_mem _ hy))
  rw [QBi,show (pre++[x]).length=pre.length+1 by simp] at ih
  refine B.Ev.succ ?_
  simp only [QT.l0,hlt,show 0≤(pre.length:Int) by omega, ↓reduceIte,QsP,B.wsucc (show pre.length<9223372036854775807 by omega),List.all_cons]
  refine B.Ev.bind (QoJ x (hx x (List.mem_cons_self ..))) ?_
  cases okO x
  ·simp only [Bool.false_eq_true, ↓reduceIte,Bool.false_and];exact B.Ev.pure _
  ·simp only [↓reduceIte,Bool.true_and];exact ih
theorem Qtp {l:List S67} (h:PIn l):B.Ev (fun k=>QT.f k l) (l.all okO && decide (l.length≤60)):=QoH l [] (by simpa using h.1) h.2
end Go.Proofs.YtallpjhkmcgpoaaGreat.X
end
section
namespace Go.Proofs.YtallpjhkmcgpoaaGreat.X
open Go Go.RowKit Go.Proofs.YtallpjhkmcgpoaaGreat.V Go.Proofs.YtallpjhkmcgpoaaGreat.P
theorem QyD {xs:List S67} {i:Nat} (h:i<xs.length):QaU xs (i:Int)=xs[i]:=by unfold QaU;rw [Int.toNat_natCast];exact B.getD_lt h
theorem Qhd {o:S67} (h:okO o=true):o.f1.length≤12∧(0≤o.f3∧o.f3≤24)∧((o.f0=1∧0≤o.f2∧o.f2≤5)∨o.f0=2∨(o.f0=3∧0≤o.f2∧o.f2≤5)):=by
 unfold okO at h
 rw [Bool.and_eq_true,Bool.and_eq_true,decide_eq_true_eq] at h
 obtain ⟨⟨_,h1⟩,h2⟩:=h
 refine ⟨h1, ?_⟩
 by_cases c1:o.f0=1
 ·simp only [c1, ↓reduceIte,Bool.and_eq_true,decide_eq_true_eq,beq_iff_eq] at h2
  omega
 ·by_cases c2:o.f0=2
  ·simp only [c2,show ¬((2:Int)=1) by decide, ↓reduceIte,Bool.and_eq_true,decide_eq_true_eq,beq_iff_eq] at h2
   omega
  ·by_cases c3:o.f0=3
   ·simp only [c3,show ¬((3:Int)=1) by decide,show ¬((3:Int)=2) by decide, ↓reduceIte,Bool.and_eq_true,decide_eq_true_eq] at h2
    omega
   ·simp only [c1,c2,c3, ↓reduceIte,Bool.false_eq_true] at h2
theorem QsY {ops:List S67} (h:∀ o∈ops,okO o=true) (hn:ops.length≤4194304):PIn ops:=⟨hn,fun o ho=>by have:=(Qhd (h o ho)).1;omega⟩
theorem QrA {x:List S38} (hx:x.length≤4194304) {o:S67} (ho:okO o=true):B.Ev (fun k=>Qo.f k x o.f0 o.f1 o.f2 o.f3 o.f4) (apN x o.f0 o.f2 o.f3 o.f4 o.f1)∧(apN x o.f0 o.f2 o.f3 o.f4 o.f1).1.length≤24∧((apN x o.f0 o.f2 o.f3 o.f4 o.f1).2=0→Qzk x o.f0 o.f1):=by
 obtain ⟨h1,h2,_⟩:=Qhd ho
 obtain ⟨u,v,⟨rfl,e1,e2,e3⟩,_,g⟩:=Qij hx o.f0 o.f2 o.f3 o.f4 o.f1 (by omega) (by omega)
 rw [←e2]
 exact ⟨g,e1,e3⟩
section
variable {c:Cst} {ops:List S67}
theorem QBP (hok:∀ o∈ops,okO o=true) (hn:ops.length≤4194304) (l y:List S38):∀ (d t:Nat) (x:List S38) (n:Int),t+d=ops.length→x.length≤4194304→QiO c x (ops.drop t)=some (y,n) →
 B.Ev (fun k=>QR.l0 k ops x ops (ops.length:Int) (t:Int) l) (y,(ops.length:Int),0):=by
 intro d
 induction d with
 | zero =>
  intro t x n ht hx hr
  obtain rfl:t=ops.length:=by omega
  rw [List.drop_length] at hr
  simp only [QiO,Option.some.injEq,Prod.mk.injEq] at hr
  refine B.Ev.succ ?_
  simp only [QR.l0,Int.lt_irrefl, ↓reduceIte]
  rw [hr.1];exact B.Ev.pure _
 | succ d ih =>
  intro t x n ht hx hr
  have hlt:t<ops.length:=by omega
  rw [List.drop_eq_getElem_cons hlt] at hr
  simp only [QiO] at hr
  obtain ⟨e1,e2,e3⟩:=QrA hx (hok _ (List.getElem_mem hlt))
  split at hr
  ·rename_i h0
   obtain ⟨q,hq,e⟩:=Option.map_eq_some_iff.1 hr
   obtain ⟨q1,q2⟩:=q
   simp only [Prod.mk.injEq] at e
   obtain ⟨rfl,_⟩:=e
   refine B.Ev.succ ?_
   simp only [QR.l0,show (t:Int)<(ops.length:Int) by omega,show 0≤(t:Int) by omega, ↓reduceIte,QyD hlt,B.wsucc (show t<9223372036854775807 by omega)]
   refine B.Ev.bind e1 ?_
   simp only [h0, ↓reduceIte]
   exact ih (t+1) _ q2 (by omega) (by omega) hq
  ·cases hr
theorem Qja (hok:∀ o∈ops,okO o=true) (hn:ops.length≤4194304) {a y:List S38} (ha:okT a=true) {n:Int} (hr:QiO c a ops=some (y,n)):B.Ev (fun k=>QR.f k a ops) (y,(ops.length:Int),0):=by
 have hl:=QaT ha
 simp only [QR.f]
 refine B.Ev.bind (B.Ev.of _ (fun k hk=>Qb7 a (by omega) k hk)) ?_
 simp only [ha, ↓reduceIte,Qz.f,show a.length * 16≤140737488355328 by omega,Option.bind_some]
 exact QBP hok hn a y ops.length 0 a n (by omega) (by omega) (by rw [List.drop_zero];exact hr)
theorem Qi8 (hn:ops.length≤4194304) (kind:Int):B.Ev (fun k=>QH.f k ops kind) ((ops.countP fun o=>decide (o.f0=kind):Nat):Int):=by
 simp only [QH.f]
 have key:∀ d t s:Nat,t+d=ops.length→s≤t→B.Ev (fun k=>QH.l0 k kind (s:Int) ops (ops.length:Int) (t:Int)) ((s+(ops.drop t).countP (fun o=>decide (o.f0=kind)):Nat):Int):=by
  intro d
  induction d with
  | zero =>
   intro t s ht hs
   obtain rfl:t=ops.length:=by omega
   refine B.Ev.succ ?_
   simp only [QH.l0,Int.lt_irrefl, ↓reduceIte,List.drop_length,List.countP_nil,Nat.add_zero]
   exact B.Ev.pure _
  | succ d ih =>
   intro t s ht hs
   have hlt:t<ops.length:=by omega
   rw [List.drop_eq_getElem_cons hlt,List.countP_cons]
   refine B.Ev.succ ?_
   simp only [QH.l0,show (t:Int)<(ops.length:Int) by omega,show 0≤(t:Int) by omega, ↓reduceIte,QyD hlt,B.wsucc (show t<9223372036854775807 by omega),B.wsucc (show s<9223372036854775807 by omega)]
   by_cases q:ops[t].f0=kind
   ·simp only [q, ↓reduceIte,decide_true]
    exact (ih (t+1) (s+1) (by omega) (by omega)).eq (by omega)
   ·simp only [q, ↓reduceIte,decide_false,Bool.false_eq_true,Nat.add_zero]
    exact ih (t+1) s (by omega) (by omega)
 have:=key ops.length 0 0 (by omega) (by omega)
 rw [List.drop_zero,Nat.zero_add] at this
 exact this
end
section
variable {d i r:List Int} {ops:List S67}
theorem QpW (h:okC d i r=true) (x:List S38) (o:S67):0≤QdR (prC d i r) x o∧QdR (prC d i r) x o≤1000:=by
 unfold QdR
 split
 ·exact Qvq h _ _
 ·split
  ·exact Qo2 h _
  ·exact Qo1 h _
theorem QBL (h:okC d i r=true) (hok:∀ o∈ops,okO o=true) (hn:ops.length≤4194304) (l y:List S38):∀ (e t:Nat) (x:List S38) (n s:Int),t+e=ops.length→x.length≤4194304→0≤s→s≤1000 * t→QiO (prC d i r) x (ops.drop t)=some (y,n) →
 B.Ev (fun k=>Qy.l0 k d i r s x ops (ops.length:Int) (t:Int) l) (s+n):=by
 intro e
 induction e with
 | zero =>
  intro t x n s ht hx h1 h2 hr
  obtain rfl:t=ops.length:=by omega
  rw [List.drop_length] at hr
  simp only [QiO,Option.some.injEq,Prod.mk.injEq] at hr
  refine B.Ev.succ ?_
  simp only [Qy.l0,Int.lt_irrefl, ↓reduceIte]
  rw [←hr.2,Int.add_zero];exact B.Ev.pure _
 | succ e ih =>
  intro t x n s ht hx h1 h2 hr
  have hlt:t<ops.length:=by omega
  rw [List.drop_eq_getElem_cons hlt] at hr
  simp only [QiO] at hr
  have hot:=hok _ (List.getElem_mem hlt)
  obtain ⟨e1,e2,e3⟩:=QrA hx hot
  obtain ⟨p1,p2,p3⟩:=Qhd hot
  split at hr
  ·rename_i h0
   obtain ⟨q,hq,eq⟩:=Option.map_eq_some_iff.1 hr
   obtain ⟨q1,q2⟩:=q
   simp only [Prod.mk.injEq] at eq
   obtain ⟨rfl,rfl⟩:=eq
   obtain ⟨hT,g,hg,hgl,_⟩:=e3 h0
   have hc:=QpW h x ops[t]
   have hw:wrap64 (s+QdR (prC d i r) x ops[t])=s+QdR (prC d i r) x ops[t]:=B.wid (by omega) (by omega)
   have ih:=ih (t+1) _ q2 (s+QdR (prC d i r) x ops[t]) (by omega) (by omega) (by omega) (by omega) hq
   rw [Int.add_assoc] at ih
   have hlab:0≤lab x g∧lab x g≤5:=(Qcd hT hgl).1
   have erd:(Qac x (g:Int)).f0=lab x g:=by rw [QbI];rfl
   refine B.Ev.succ ?_
   simp only [Qy.l0,show (t:Int)<(ops.length:Int) by omega,show 0≤(t:Int) by omega, ↓reduceIte,QyD hlt,B.wsucc (show t<9223372036854775807 by omega)]
   refine B.Ev.bind (Qkj x hx ops[t].f1 (by omega)).2 ?_
   refine B.Ev.bind e1 ?_
   rw [hg]
   simp only [h0, ↓reduceIte,show 0≤(g:Int) by omega,show (g:Int)<(x.length:Int) by omega,erd]
   rcases p3 with ⟨k1,k2⟩|k1|⟨k1,k2⟩
   ·have ec:QdR (prC d i r) x ops[t]=(prC d i r).r (lab x g) ops[t].f2:=by unfold QdR;rw [if_pos k1,hg,Int.toNat_natCast]
    simp only [k1, ↓reduceIte]
    refine B.Ev.bind (QrB h hlab k2) ?_
    rw [←ec,hw];rw [k1] at ih;exact ih
   ·have ec:QdR (prC d i r) x ops[t]=(prC d i r).d (lab x g):=by unfold QdR;rw [if_neg (by omega),if_pos k1,hg,Int.toNat_natCast]
    simp only [k1,show ¬((2:Int)=1) by decide, ↓reduceIte]
    refine B.Ev.bind (QwM h hlab) ?_
    rw [←ec,hw];rw [k1] at ih;exact ih
   ·have ec:QdR (prC d i r) x ops[t]=(prC d i r).i ops[t].f2:=by unfold QdR;rw [if_neg (by omega),if_neg (by omega)]
    simp only [k1,show ¬((3:Int)=1) by decide,show ¬((3:Int)=2) by decide, ↓reduceIte]
    refine B.Ev.bind (QwK h k2) ?_
    rw [←ec,hw];rw [k1] at ih;exact ih
  ·cases hr
theorem Qnz (h:okC d i r=true) (hok:∀ o∈ops,okO o=true) (hn:ops.length≤4194304) {a y:List S38} (ha:okT a=true) {n:Int} (hr:QiO (prC d i r) a ops=some (y,n)):B.Ev (fun k=>Qy.f k a ops d i r) n:=by
 have hl:=QaT ha
 have hp:=Qcs h
 simp only [Qy.f]
 refine B.Ev.bind (B.Ev.of _ (fun k hk=>Qb7 a (by omega) k hk)) ?_
 simp only [ha, ↓reduceIte]
 refine B.Ev.bind (QdN d i r (by omega) (by omega) (by omega)) ?_
 simp only [h, ↓reduceIte,Qz.f,show a.length * 16≤140737488355328 by omega,Option.bind_some]
 exact (QBL h hok hn a y ops.length 0 a n 0 (by omega) (by omega) (by omega) (by omega) (by rw [List.drop_zero];exact hr)).eq (Int.zero_add n)
theorem Qtv (m:List S40) (x:Int) (hl:m.length≤4194304):∃ r:Int,B.Ev (fun k=>Qh.f k m x) r∧decide (r≥0)=m.any fun p=>p.f0 == x:=by
 simp only [Qh.f]
 have key:∀ n p:Nat,p+n=m.length→∃ r:Int,B.Ev (fun k=>Qh.l0 k m (m.length:Int) (p:Int) x) r∧decide (r≥0)=(m.drop p).any fun p=>p.f0 == x:=by
  intro n
  induction n with
  | zero =>
   intro p hp
   refine ⟨-1,B.Ev.succ ?_,by rw [List.drop_eq_nil_of_le (by omega)];rfl⟩
   simp only [Qh.l0,show ¬((p:Int)<(m.length:Int)) by omega, ↓reduceIte]
   exact B.Ev.pure _
  | succ n ih =>
   intro p hp
   have hlt:p<m.length:=by omega
   have e:Qah m (p:Int)=m[p]:=by rw [Qc3];exact B.getD_lt hlt
   rw [List.drop_eq_getElem_cons hlt,List.any_cons]
   by_cases c:m[p].f0=x
   ·refine ⟨(p:Int),B.Ev.succ ?_,by simp [c]⟩
    simp only [Qh.l0,show (p:Int)<(m.length:Int) by omega,show 0≤(p:Int) by omega, ↓reduceIte,e,Qay.f,Option.bind_some,c,beq_self_eq_true]
    exact B.Ev.pure _
   ·obtain ⟨r,h1,h2⟩:=ih (p+1) (by omega)
    have cb:(m[p].f0 == x)=false:=by rw [beq_eq_false_iff_ne];exact c
    refine ⟨r,B.Ev.succ ?_,by rw [cb,Bool.false_or];exact h2⟩
    simp only [Qh.l0,show (p:Int)<(m.length:Int) by omega,show 0≤(p:Int) by omega, ↓reduceIte,e,Qay.f,Option.bind_some,cb,Bool.false_eq_true,B.wsucc (show p<9223372036854775807 by omega)]
    exact h1
 have:=key m.length 0 (by omega)
 rw [List.drop_zero] at this
 exact this
theorem Qtu (m:List S40) (x:Int) (hl:m.length≤4194304):∃ r:Int,B.Ev (fun k=>Qg.f k m x) r∧decide (r≥0)=m.any fun p=>p.f1 == x:=by
 simp only [Qg.f]
 have key:∀ n p:Nat,p+n=m.length→∃ r:Int,B.Ev (fun k=>Qg.l0 k m (m.length:Int) (p:Int) x) r∧decide (r≥0)=(m.drop p).any fun p=>p.f1 == x:=by
  intro n
  induction n with
  | zero =>
   intro p hp
   refine ⟨-1,B.Ev.succ ?_,by rw [List.drop_eq_nil_of_le (by omega)];rfl⟩
   simp only [Qg.l0,show ¬((p:Int)<(m.length:Int)) by omega, ↓reduceIte]
   exact B.Ev.pure _
  | succ n ih =>
   intro p hp
   have hlt:p<m.length:=by omega
   have e:Qah m (p:Int)=m[p]:=by rw [Qc3];exact B.getD_lt hlt
   rw [List.drop_eq_getElem_cons hlt,List.any_cons]
   by_cases c:m[p].f1=x
   ·refine ⟨(p:Int),B.Ev.succ ?_,by simp [c]⟩
    simp only [Qg.l0,show (p:Int)<(m.length:Int) by omega,show 0≤(p:Int) by omega, ↓reduceIte,e,Qax.f,Option.bind_some,c,beq_self_eq_true]
    exact B.Ev.pure _
   ·obtain ⟨r,h1,h2⟩:=ih (p+1) (by omega)
    have cb:(m[p].f1 == x)=false:=by rw [beq_eq_false_iff_ne];exact c
    refine ⟨r,B.Ev.succ ?_,by rw [cb,Bool.false_or];exact h2⟩
    simp only [Qg.l0,show (p:Int)<(m.length:Int) by omega,show 0≤(p:Int) by omega, ↓reduceIte,e,Qax.f,Option.bind_some,cb,Bool.false_eq_true,B.wsucc (show p<9223372036854775807 by omega)]
    exact h1
 have:=key m.length 0 (by omega)
 rw [List.drop_zero] at this
 exact this
theorem Qol {m:List S40} {x:Nat} (hp:∀ p∈m,0≤p.f1):(m.any fun p=>p.f1 == (x:Int))=decide (x∈mB m):=by
 rw [Bool.eq_iff_iff,List.any_eq_true,decide_eq_true_eq]
 unfold mB
 rw [List.mem_map]
 constructor
 ·rintro ⟨p,h1,h2⟩
  have:=eq_of_beq h2
  exact ⟨p,h1,by omega⟩
 ·rintro ⟨p,h1,h2⟩
  have:=hp p h1
  exact ⟨p,h1,by rw [beq_iff_eq];omega⟩
theorem QgJ (j:Nat) (S:List Nat):QaF (j+1) S=QaF j S++if j∈S then [] else [j]:=by
 unfold QaF
 rw [List.range_succ,List.filter_append]
 by_cases c:j∈S
 ·rw [if_pos c,List.filter_cons_of_neg (by simp [c])];rfl
 ·rw [if_neg c,List.filter_cons_of_pos (by simp [c])];rfl
theorem QfF {α:Type} {g:α→Int} : ∀ {l:List α}, (∀ x∈l,0≤g x∧g x≤1000)→0≤Qcx g l∧Qcx g l≤1000 * l.length
 | [],_=>by simp [Qcx]
 | x::l,h=>by
  have h1:=h x (List.mem_cons_self ..)
  have h2:=QfF (l:=l) fun y hy=>h y (List.mem_cons_of_mem _ hy)
  simp only [Qcx,List.length_cons]
  omega
section
variable {a b:List S38} {m:List S40}
theorem Qdn {n:Nat} {S:List Nat} (hS:Srt S) (hb:∀ x∈S,x<n):(QaF n S).length+S.length=n:=by
 have e:S=(List.range n).filter (fun x=>decide (x∈S)):=Qeb hS (List.Pairwise.filter _ List.pairwise_lt_range) fun x=>by
  rw [List.mem_filter,List.mem_range]
  exact ⟨fun hx=>⟨hb x hx,by simpa using hx⟩,fun hx=>by simpa using hx.2⟩
 have h1:S.length=(List.range n).countP (fun x=>decide (x∈S)):=by rw [List.countP_eq_length_filter, ←e]
 have h2:(QaF n S).length=(List.range n).countP (fun x=>decide (x∉S)):=by unfold QaF;rw [List.countP_eq_length_filter]
 rw [h1,h2,Qe5 (r:=fun _=>true) (fun x _=>by by_cases q:x∈S <;> simp [q]),List.countP_true,List.length_range]
theorem Mp.posA (hM:Mp a b m):∀ p∈m,0≤p.f0:=fun p hp=>by
 obtain ⟨i,hi,e⟩:=List.getElem_of_mem hp
 have:=hM.eA i hi
 unfold pA at this
 rw [B.getD_lt hi,e] at this
 omega
theorem Mp.posB (hM:Mp a b m):∀ p∈m,0≤p.f1:=fun p hp=>by
 obtain ⟨i,hi,e⟩:=List.getElem_of_mem hp
 have:=hM.eB i hi
 unfold pB at this
 rw [B.getD_lt hi,e] at this
 omega
theorem Mp.len (hM:Mp a b m):m.length≤a.length∧m.length≤b.length:=by
 have h1:=Qds hM.sA.1 hM.sA.2.1
 have h2:=Qds hM.sB.1 hM.sB.2.1
 rw [Qce] at h1
 rw [Qc4] at h2
 exact ⟨h1,h2⟩
theorem Mp.pair (hM:Mp a b m) {t:Nat} (ht:t<m.length):∃ x y:Nat,Qah m (t:Int)=⟨(x:Int),(y:Int)⟩∧m[t]=⟨(x:Int),(y:Int)⟩∧x<a.length∧y<b.length:=by
 have eA:=hM.eA t ht
 have eB:=hM.eB t ht
 have hxa:(mA m).getD t 0<a.length:=hM.sA.2.1 _ (Qbt (by rw [Qce];exact ht))
 have hyb:(mB m).getD t 0<b.length:=hM.sB.2.1 _ (Qbt (by rw [Qc4];exact ht))
 unfold pA at eA
 unfold pB at eB
 have e:m.getD t z40=⟨((mA m).getD t 0:Int),((mB m).getD t 0:Int)⟩:=by
  generalize m.getD t z40=p at *
  cases p
  simp only at eA eB
  rw [eA,eB]
 exact ⟨_,_,by rw [Qc3,e],by rw [←B.getD_lt ht (z:=z40),e],hxa,hyb⟩
theorem QnG (h:okC d i r=true) (hM:Mp a b m):B.Ev (fun k=>Qi.f k a b d i r m) (Qcx (fun x=>(prC d i r).d (lab a x)) (QaF a.length (mA m))+QcA (prC d i r) b (QaF b.length (mB m))+Qcx (QhD (prC d i r) a b) m):=by
 have ha:=QaT hM.ta
 have hb:=QaT hM.tb
 have hp:=Qcs h
 obtain ⟨hml,hml'⟩:=hM.len
 have hOk:okM a b m=true→True:=fun _=>trivial
 have l2:∀ (e t:Nat) (s:Int),t+e=m.length→0≤s→s≤100000+1000 * t→B.Ev (fun k=>Qi.l2 k a b d i r s m (m.length:Int) (t:Int)) (s+Qcx (QhD (prC d i r) a b) (m.drop t)):=by
  intro e
  induction e with
  | zero =>
   intro t s ht _ _
   obtain rfl:t=m.length:=by omega
   refine B.Ev.succ ?_
   simp only [Qi.l2,Int.lt_irrefl, ↓reduceIte,List.drop_length,Qcx,Int.add_zero]
   exact B.Ev.pure _
  | succ e ih =>
   intro t s ht h1 h2
   have hlt:t<m.length:=by omega
   obtain ⟨x,y,e1,e2,hx,hy⟩:=hM.pair hlt
   have lx:(Qac a (x:Int)).f0=lab a x:=by rw [QbI];rfl
   have ly:(Qac b (y:Int)).f0=lab b y:=by rw [QbI];rfl
   have hc:=Qvq h (lab a x) (lab b y)
   have er:QhD (prC d i r) a b m[t]=(prC d i r).r (lab a x) (lab b y):=by unfold QhD;rw [e2,Int.toNat_natCast,Int.toNat_natCast]
   have hw:wrap64 (s+(prC d i r).r (lab a x) (lab b y))=s+(prC d i r).r (lab a x) (lab b y):=B.wid (by omega) (by omega)
   rw [List.drop_eq_getElem_cons hlt]
   refine B.Ev.succ ?_
   simp only [Qi.l2,show (t:Int)<(m.length:Int) by omega,show 0≤(t:Int) by omega,e1,show 0≤(x:Int) by omega,show 0≤(y:Int) by omega,show (x:Int)<(a.length:Int) by omega,show (y:Int)<(b.length:Int) by omega,lx,ly, ↓reduceIte,B.wsucc (show t<9223372036854775807 by omega)]
   refine B.Ev.bind (QrB h (Qez hM.ta hx) (Qez hM.tb hy)) ?_
   rw [hw]
   exact (ih (t+1) _ (by omega) (by omega) (by omega)).eq (by simp only [Qcx];rw [er];omega)
 have lb:∀ (e t:Nat) (s:Int),t+e=b.length→0≤s→s≤50000→B.Ev (fun k=>Qi.l1 k a b m d i r (s+QcA (prC d i r) b (QaF t (mB m))) b (b.length:Int) (t:Int)) (s+QcA (prC d i r) b (QaF b.length (mB m))+Qcx (QhD (prC d i r) a b) m):=by
  intro e
  induction e with
  | zero =>
   intro t s ht h1 h2
   obtain rfl:t=b.length:=by omega
   refine B.Ev.succ ?_
   simp only [Qi.l1,Int.lt_irrefl, ↓reduceIte]
   have hs:0≤QcA (prC d i r) b (QaF b.length (mB m))∧QcA (prC d i r) b (QaF b.length (mB m))≤24000:=by
    unfold QcA
    have:=QfF (g:=fun v=>(prC d i r).i (lab b v)) (l:=QaF b.length (mB m)) fun v _=>Qo1 h _
    have hl:=Qdn hM.sB.1 hM.sB.2.1
    omega
   have:=l2 m.length 0 (s+QcA (prC d i r) b (QaF b.length (mB m))) (by omega) (by omega) (by omega)
   rw [List.drop_zero] at this
   exact this
  | succ e ih =>
   intro t s ht h1 h2
   have hlt:t<b.length:=by omega
   obtain ⟨q,g1,g2⟩:=Qtu m (t:Int) (by omega)
   rw [Qol hM.posB] at g2
   have lt':(Qac b (t:Int)).f0=lab b t:=by rw [QbI];rfl
   have hl:=Qez hM.tb hlt
   have ih:=ih (t+1) s (by omega) h1 h2
   refine B.Ev.succ ?_
   simp only [Qi.l1,show (t:Int)<(b.length:Int) by omega,show 0≤(t:Int) by omega, ↓reduceIte,lt',hl,show lab b t<((6:Nat):Int) by omega,hp.2.1.1,B.wsucc (show t<9223372036854775807 by omega),QK.f]
   refine B.Ev.bind (B.Ev.bind g1 (B.Ev.pure _)) ?_
   rw [g2]
   rw [QgJ] at ih
   by_cases c:t∈mB m
   ·rw [if_pos c,List.append_nil] at ih
    simp only [c,decide_true, ↓reduceIte];exact ih
   ·rw [if_neg c] at ih
    have hs:0≤QcA (prC d i r) b (QaF t (mB m))∧QcA (prC d i r) b (QaF t (mB m))≤24000:=by
     unfold QcA
     have:=QfF (g:=fun v=>(prC d i r).i (lab b v)) (l:=QaF t (mB m)) fun v _=>Qo1 h _
     have hl:(QaF t (mB m)).length≤t:=by unfold QaF;exact Nat.le_trans (List.length_filter_le _ _) (by simp)
     omega
    have hc:=Qo1 h (lab b t)
    have ed:rd i (lab b t)=(prC d i r).i (lab b t):=rfl
    have e4:QcA (prC d i r) b (QaF t (mB m)++[t])=QcA (prC d i r) b (QaF t (mB m))+(prC d i r).i (lab b t):=by unfold QcA;rw [Qg1];simp only [Qcx,Int.add_zero]
    rw [e4, ←Int.add_assoc] at ih
    simp only [c,decide_false,Bool.false_eq_true, ↓reduceIte,ed]
    rw [B.wid (by omega) (by omega)];exact ih
 have la:∀ (e t:Nat),t+e=a.length→B.Ev (fun k=>Qi.l0 k a b m d i r (Qcx (fun x=>(prC d i r).d (lab a x)) (QaF t (mA m))) a (a.length:Int) (t:Int)) (Qcx (fun x=>(prC d i r).d (lab a x)) (QaF a.length (mA m))+QcA (prC d i r) b (QaF b.length (mB m))+Qcx (QhD (prC d i r) a b) m):=by
  intro e
  induction e with
  | zero =>
   intro t ht
   obtain rfl:t=a.length:=by omega
   refine B.Ev.succ ?_
   simp only [Qi.l0,Int.lt_irrefl, ↓reduceIte]
   have hs:=QfF (g:=fun v=>(prC d i r).d (lab a v)) (l:=QaF a.length (mA m)) fun v _=>Qo2 h _
   have hl:=Qdn hM.sA.1 hM.sA.2.1
   have:=lb b.length 0 (Qcx (fun x=>(prC d i r).d (lab a x)) (QaF a.length (mA m))) (by omega) (by omega) (by omega)
   have e0:QcA (prC d i r) b (QaF 0 (mB m))=0:=rfl
   rw [e0,Int.add_zero] at this
   exact this
  | succ e ih =>
   intro t ht
   have hlt:t<a.length:=by omega
   obtain ⟨q,g1,g2⟩:=Qtv m (t:Int) (by omega)
   rw [QkD hM.posA] at g2
   have lt':(Qac a (t:Int)).f0=lab a t:=by rw [QbI];rfl
   have hl:=Qez hM.ta hlt
   have ih:=ih (t+1) (by omega)
   refine B.Ev.succ ?_
   simp only [Qi.l0,show (t:Int)<(a.length:Int) by omega,show 0≤(t:Int) by omega, ↓reduceIte,lt',hl,show lab a t<((6:Nat):Int) by omega,hp.1.1,B.wsucc (show t<9223372036854775807 by omega),QL.f]
   refine B.Ev.bind (B.Ev.bind g1 (B.Ev.pure _)) ?_
   rw [g2]
   rw [QgJ] at ih
   by_cases c:t∈mA m
   ·rw [if_pos c,List.append_nil] at ih
    simp only [c,decide_true, ↓reduceIte];exact ih
   ·rw [if_neg c] at ih
    have hs:=QfF (g:=fun v=>(prC d i r).d (lab a v)) (l:=QaF t (mA m)) fun v _=>Qo2 h _
    have hl:(QaF t (mA m)).length≤t:=by unfold QaF;exact Nat.le_trans (List.length_filter_le _ _) (by simp)
    have hc:=Qo2 h (lab a t)
    have ed:rd d (lab a t)=(prC d i r).d (lab a t):=rfl
    have e4:Qcx (fun x=>(prC d i r).d (lab a x)) (QaF t (mA m)++[t])=Qcx (fun x=>(prC d i r).d (lab a x)) (QaF t (mA m))+(prC d i r).d (lab a t):=by rw [Qg1];simp only [Qcx,Int.add_zero]
    rw [e4] at ih
    simp only [c,decide_false,Bool.false_eq_true, ↓reduceIte,ed]
    rw [B.wid (by omega) (by omega)];exact ih
 simp only [Qi.f]
 refine B.Ev.bind (Qkk a b m (by omega) (by omega) (by omega)) ?_
 rw [hM.ok]
 simp only [↓reduceIte]
 refine B.Ev.bind (QdN d i r (by omega) (by omega) (by omega)) ?_
 simp only [h, ↓reduceIte]
 exact la a.length 0 (by omega)
theorem QsO (h:okC d i r=true) (hM:Mp a b m):Qcx (QhD (prC d i r) a b) (m.filter (dif a b))=Qcx (QhD (prC d i r) a b) m:=by
 have key:∀ l:List S40,(∀ p∈l,p∈m)→Qcx (QhD (prC d i r) a b) (l.filter (dif a b))=Qcx (QhD (prC d i r) a b) l:=by
  intro l
  induction l with
  | nil=>intro _;rfl
  | cons p l ih =>
   intro hl
   have ih:=ih fun q hq=>hl q (List.mem_cons_of_mem _ hq)
   by_cases c:dif a b p=true
   ·rw [List.filter_cons_of_pos c];simp only [Qcx];rw [ih]
   ·rw [List.filter_cons_of_neg c];simp only [Qcx];rw [ih]
    have:QhD (prC d i r) a b p=0:=by
     obtain ⟨t,ht,e⟩:=List.getElem_of_mem (hl p (List.mem_cons_self ..))
     obtain ⟨x,y,_,e2,hx,hy⟩:=hM.pair ht
     unfold dif at c
     unfold QhD
     rw [decide_eq_true_eq,Decidable.not_not] at c
     rw [c, ←e,e2,Int.toNat_natCast]
     exact Qo0 h (Qez hM.ta hx)
    omega
 exact key m fun p hp=>hp
end
end
theorem Qme (m:List S40):QaC.f m=some (Qed m):=by
 unfold Qed
 simp only [QaC.f]
 by_cases h:0<m.length
 ·have e:Qah m 0=m.getD 0 z40:=rfl
  simp only [show (m.length:Int) > 0 by omega,show (0:Int)<(m.length:Int) by omega, ↓reduceIte,e,h,true_and]
  unfold pA pB
  rw [←Bool.decide_and]
 ·simp only [show ¬((m.length:Int) > 0) by omega, ↓reduceIte,h,false_and,decide_false]
theorem Qk6 (l:List S38) (hl:l.length≤4194304):B.Ev (fun k=>QQ.f k l l) true:=by
 unfold QQ.f
 simp only [↓reduceIte]
 refine B.Ev.loop (g:=fun k j=>QQ.l0 k l l (j:Int)) l.length (fun _=>True) ?_ ?_ 0 (by omega) trivial
 ·intro _
  refine B.Ev.succ ?_
  simp only [QQ.l0,Int.lt_irrefl, ↓reduceIte]
  exact B.Ev.pure _
 ·intro j hj _ ih
  refine B.Ev.succ ?_
  simp only [QQ.l0,show (j:Int)<(l.length:Int) by omega,show 0≤(j:Int) by omega, ↓reduceIte,B.wsucc (show j<9223372036854775807 by omega),decide_true,Bool.and_self]
  exact ih trivial
end Go.Proofs.YtallpjhkmcgpoaaGreat.X
end
section
namespace Go.Proofs.YtallpjhkmcgpoaaGreat.Pure
open Go Go.RowKit Go.Proofs.YtallpjhkmcgpoaaGreat.V Go.Proofs.YtallpjhkmcgpoaaGreat.P Go.Proofs.YtallpjhkmcgpoaaGreat.X
section
variable {a b:List S38} {m:List S40} {d i r:List Int}
theorem Qs5 (L:List Int) (hM:Mp a b m) (hd:d.length≤36) (hi:i.length≤36) (hr:r.length≤36) {v:List S67} (hv:Qyu (prC d i r) a b m v) :
 ∀ (e t s:Nat),t+e=m.length→s≤t→s+((m.drop t).filter (dif a b)).length=(m.filter (dif a b)).length→B.Ev (fun k=>Qv.l0 k a b m v b (v.length:Int) 0 (s:Int) (t:Int) L d i r) true:=by
 have ha:=QaT hM.ta
 have hb:=QaT hM.tb
 obtain ⟨hml,hml'⟩:=hM.len
 have hm1:1≤m.length:=by
  obtain ⟨g,hg,_⟩:=Qdx hM.sA.2.2
  rw [Qce] at hg;omega
 have fA:=Qdn hM.sA.1 hM.sA.2.1
 have fB:=Qdn hM.sB.1 hM.sB.2.1
 rw [Qce] at fA
 rw [Qc4] at fB
 have hlv:=hv.len
 have hfl:(m.filter (dif a b)).length≤m.length:=List.length_filter_le _ _
 have hv60:v.length≤60:=by omega
 intro e
 induction e with
 | zero =>
  intro t s ht hs hc
  obtain rfl:t=m.length:=by omega
  rw [List.drop_length] at hc
  simp only [List.filter_nil,List.length_nil,Nat.add_zero] at hc
  refine B.Ev.succ ?_
  simp only [Qv.l0,Int.lt_irrefl, ↓reduceIte]
  refine B.Ev.bind (Qk6 b (by omega)) ?_
  simp only [↓reduceIte]
  refine B.Ev.bind (Qtp (QsY hv.ok (by omega))) ?_
  have h1:(v.all okO && decide (v.length≤60))=true:=by rw [Bool.and_eq_true,List.all_eq_true,decide_eq_true_eq];exact ⟨hv.ok,hv60⟩
  simp only [h1, ↓reduceIte]
  refine B.Ev.bind (Qi8 (ops:=v) (by omega) 1) ?_
  simp only [hv.cr,hc, ↓reduceIte]
  refine B.Ev.bind (Qi8 (ops:=v) (by omega) 2) ?_
  have w1:wrap64 ((a.length:Int)-(m.length:Int))=((QaF a.length (mA m)).length:Int):=by rw [B.wid (by omega) (by omega)];omega
  have w2:wrap64 ((b.length:Int)-(m.length:Int))=((QaF b.length (mB m)).length:Int):=by rw [B.wid (by omega) (by omega)];omega
  simp only [hv.cd,w1,w2, ↓reduceIte]
  refine B.Ev.bind (Qi8 (ops:=v) (by omega) 3) ?_
  simp only [hv.ci, ↓reduceIte]
  refine B.Ev.bind (QpM d i r (by omega) (by omega) (by omega)) ?_
  refine B.Ev.ite (fun hok => ?_) (fun _=>B.Ev.pure _)
  refine B.Ev.bind (Qnz hok hv.ok (by omega) hM.ta hv.run) ?_
  refine B.Ev.bind (QnG hok hM) ?_
  refine (B.Ev.pure _).eq ?_
  rw [QsO hok hM,beq_iff_eq]
  omega
 | succ e ih =>
  intro t s ht hs hc
  have htl:t<m.length:=by omega
  obtain ⟨x,y,e1,e2,hx,hy⟩:=hM.pair htl
  have lx:(Qac a (x:Int)).f0=lab a x:=by rw [QbI];rfl
  have ly:(Qac b (y:Int)).f0=lab b y:=by rw [QbI];rfl
  have hdf:dif a b m[t]=decide (lab b y≠lab a x):=by unfold dif;rw [e2,Int.toNat_natCast,Int.toNat_natCast]
  rw [List.drop_eq_getElem_cons htl] at hc
  refine B.Ev.succ ?_
  simp only [Qv.l0,show (t:Int)<(m.length:Int) by omega,show 0≤(t:Int) by omega,e1,show 0≤(x:Int) by omega,show 0≤(y:Int) by omega,show (x:Int)<(a.length:Int) by omega,show (y:Int)<(b.length:Int) by omega,lx,ly, ↓reduceIte,B.wsucc (show t<9223372036854775807 by omega),B.wsucc (show s<9223372036854775807 by omega)]
  by_cases q:lab a x=lab b y
  ·rw [List.filter_cons_of_neg (by rw [hdf];simp [q])] at hc
   simp only [q, ↓reduceIte]
   exact ih (t+1) s (by omega) (by omega) hc
  ·rw [List.filter_cons_of_pos (by rw [hdf];simp [Ne.symm q])] at hc
   simp only [q, ↓reduceIte]
   exact ih (t+1) (s+1) (by omega) (by omega) (by rw [List.length_cons] at hc;omega)
end
theorem FnLowered:∀ (l0:List Int),(l0.length≤maxLen∧∀ x∈l0,(Lit.int .u8 x).wf=true)→∃ k,Qv.f k l0=some true:=by
 intro l0 _
 refine B.Ev.ex ?_
 unfold Qv.f
 rw [Qv5]
 simp only [Option.bind_some]
 refine B.Ev.ite (fun _=>B.Ev.pure _) (fun h => ?_)
 have hl:l0.length≤1048576:=by simp at h;omega
 obtain ⟨⟨a,b,d,i,r,m⟩,⟨ha,hb,hd,hi,hr,hm⟩,ed⟩:=(QnP l0 (by omega)).ev
 simp only at ha hb hd hi hr hm
 refine B.Ev.bind ed ?_
 obtain ⟨v,hv,ev⟩:=(Qts (prC d i r) a b m (by omega) (by omega) (by omega)).ev
 refine B.Ev.bind ev ?_
 refine B.Ev.bind (QnF a b m (by omega) (by omega) (by omega)) ?_
 by_cases h1:okM a b m=true
 ·by_cases h2:Qed m=true
  ·rw [h1,h2] at hv
   simp only [Bool.and_self, ↓reduceIte] at hv
   obtain ⟨hM,hv⟩:=hv
   simp only [h1,h2,Qme,Option.bind_some, ↓reduceIte]
   have hlv:=hv.len
   have fA:=Qdn hM.sA.1 hM.sA.2.1
   have fB:=Qdn hM.sB.1 hM.sB.2.1
   have hfl:(m.filter (dif a b)).length≤m.length:=List.length_filter_le _ _
   refine B.Ev.bind (Qja hv.ok (by omega) hM.ta hv.run) ?_
   exact Qs5 l0 hM hd hi hr hv m.length 0 0 (by omega) (by omega) (by rw [List.drop_zero,Nat.zero_add])
  ·rw [Bool.not_eq_true] at h2
   rw [h1,h2] at hv
   simp only [Bool.and_false,Bool.false_eq_true, ↓reduceIte] at hv
   subst hv
   simp only [h1,h2,Qme,Option.bind_some, ↓reduceIte,Bool.false_eq_true]
   exact B.Ev.pure _
 ·rw [Bool.not_eq_true] at h1
  rw [h1] at hv
  simp only [Bool.false_and,Bool.false_eq_true, ↓reduceIte] at hv
  subst hv
  simp only [h1,Bool.false_eq_true, ↓reduceIte]
  exact B.Ev.pure _
end Go.Proofs.YtallpjhkmcgpoaaGreat.Pure
end
