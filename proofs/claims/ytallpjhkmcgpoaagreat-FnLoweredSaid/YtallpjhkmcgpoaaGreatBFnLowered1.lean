/- FnLowered: VW VX VY VYA VYB VZ WA WAF WB WC WD WE WF WG WH WI. -/
import Derived.Test.YtallpjhkmcgpoaaGreatBFnLowered0
import Derived.Lib.Overlaps
import Derived.RowKit
import Derived.Laws.Entries
import Derived.Laws.Strings
set_option linter.all false
set_option maxRecDepth 100000
set_option maxHeartbeats 8000000
section
namespace Go.Proofs.YtallpjhkmcgpoaaGreat.V
open Go
theorem Qgf:∀ (l:List Qaj) (rs:Rs) (n r:Nat),Qck rs n l r=if n≤r∧r<n+l.length then l[r-n]? else rs r
 | [],rs,n,r=>by simp only [Qck,List.length_nil];rw [if_neg (by omega)]
 | R::l,rs,n,r=>by
  simp only [Qck]
  rw [Qgf l _ (n+1) r]
  by_cases h:n+1≤r∧r<n+1+l.length
  ·rw [if_pos h,if_pos (by simp;omega),show r-n=(r-(n+1))+1 by omega,List.getElem?_cons_succ]
  ·rw [if_neg h]
   by_cases e:r=n
   ·subst e;rw [Q6,if_pos (by simp)];simp
   ·rw [Qaz _ _ e,if_neg (by simp;omega)]
theorem QcG:∀ {us:List Use}, Qdi us=true→∀ {k k':Nat} {u u':Use} {r q q'}, us[k]? = some u→us[k']? = some u'→k≠k'→u.own=true→u.at'=some (r,q)→u'.at'=some (r,q')→False
 | [],_,k,k',u,u',r,q,q',h,_,_,_,_,_=>by simp at h
 | v::us,ok,k,k',u,u',r,q,q',h,h',hne,ho,ha,ha'=>by
  simp only [Qdi,Bool.and_eq_true,List.all_eq_true] at ok
  have use:∀ x∈us,∀ {r q q'}, (v.own || x.own)=true→v.at'=some (r,q)→x.at'=some (r,q')→False:=fun x hx {r q q'} h1 h2 h3=>by
   have:=ok.1 x hx
   simp [h1,h2,h3,Use.root] at this
  cases k with
  | zero =>
   simp only [List.getElem?_cons_zero,Option.some.injEq] at h;subst h
   cases k' with
   | zero=>exact hne rfl
   | succ k'=>exact use u' (List.mem_of_getElem? (by simpa using h')) (by simp [ho]) ha ha'
  | succ k =>
   cases k' with
   | zero =>
    simp only [List.getElem?_cons_zero,Option.some.injEq] at h';subst h'
    exact use u (List.mem_of_getElem? (by simpa using h)) (by simp [ho]) ha' ha
   | succ k'=>exact QcG ok.2 (k:=k) (k':=k') (by simpa using h) (by simpa using h') (by omega) ho ha ha'
theorem QgB:∀ {us:List Use} {bs:List (Option Els)} {rs rs':Rs}, Qbw rs us bs=some rs'→Qdi us=true →
 (∀ r,(∀ (k:Nat) u q,us[k]? = some u→u.own=true→u.at'≠some (r,q))→rs' r=rs r) ∧
 (∀ (k:Nat) u r q b,us[k]? = some u→u.own=true→u.at'=some (r,q)→bs[k]? = some b→match b with
  | none=>rs' r=none
  | some ys=>∃ R,rs r=some R∧rs' r=some { R with pv:=R.pv+1,xs:=ys })
 | [],[],rs,rs',h,_=>by
  simp only [Qbw,Option.some.injEq] at h;subst h
  exact ⟨fun r _=>rfl,fun k u r q b h=>by simp at h⟩
 | u::us,b::bs,rs,rs',h,ok=>by
  have ok2:Qdi us=true:=by simp only [Qdi,Bool.and_eq_true] at ok;exact ok.2
  have away:∀ {r q}, u.own=true→u.at'=some (r,q)→∀ (k:Nat) v q',us[k]? = some v→v.own=true→v.at'≠some (r,q'):=fun ho ha k v q' hk _ e =>
   QcG ok (k:=0) (k':=k+1) rfl (by simpa using hk) (by omega) ho ha e
  have lift:∀ {rs1:Rs}, Qbw rs1 us bs=some rs'→(∀ r,(∀ q,u.own=true→u.at'≠some (r,q))→rs1 r=rs r) →
   (∀ r q,u.own=true→u.at'=some (r,q)→match b with|none=>rs1 r=none|some ys=>∃ R,rs r=some R∧rs1 r=some { R with pv:=R.pv+1,xs:=ys }) →
   (∀ r,(∀ (k:Nat) v q,(u::us)[k]? = some v→v.own=true→v.at'≠some (r,q))→rs' r=rs r) ∧
   (∀ (k:Nat) v r q b',(u::us)[k]? = some v→v.own=true→v.at'=some (r,q)→(b::bs)[k]? = some b'→match b' with
    | none=>rs' r=none
    | some ys=>∃ R,rs r=some R∧rs' r=some { R with pv:=R.pv+1,xs:=ys }):=fun {rs1} hb h1 h2=>by
   obtain ⟨g1,g2⟩:=QgB hb ok2
   refine ⟨fun r hr => ?_,fun k v r q b' hk ho ha hb' => ?_⟩
   ·rw [g1 r fun k v q hk=>hr (k+1) v q (by simpa using hk)]
    exact h1 r fun q=>hr 0 u q rfl
   ·cases k with
    | zero =>
     simp only [List.getElem?_cons_zero,Option.some.injEq] at hk hb'
     subst hk;subst hb'
     have h3:=h2 r q ho ha
     rw [g1 r (away ho ha)]
     cases b <;> exact h3
    | succ k =>
     have hk':us[k]? = some v:=by simpa using hk
     have:=g2 k v r q b' hk' ho ha (by simpa using hb')
     have hne:rs1 r=rs r:=h1 r fun q' ho' e=>QcG ok (k:=0) (k':=k+1) rfl (by simpa using hk) (by omega) ho' e ha
     rw [hne] at this
     cases b' <;> exact this
  simp only [Qbw] at h
  split at h
  ·rename_i ho
   cases ha:u.at' with
   | none =>
    simp only [ha] at h
    exact lift h (fun r _=>rfl) (fun r q _ e=>by rw [ha] at e;cases e)
   | some x =>
    obtain ⟨r,q⟩:=x
    cases b with
    | none =>
     simp only [ha] at h
     refine lift h (fun r' hr'=>Qaz _ _ fun e=>hr' q ho (by rw [ha,e])) (fun r' q' _ e => ?_)
     rw [ha] at e;injection e with e;injection e with e1 e2
     subst e1;exact Q6 _ _ _
    | some ys =>
     simp only [ha,Option.bind_eq_some_iff] at h
     obtain ⟨R,hR,h⟩:=h
     refine lift h (fun r' hr'=>Qaz _ _ fun e=>hr' q ho (by rw [ha,e])) (fun r' q' _ e => ?_)
     rw [ha] at e;injection e with e;injection e with e1 e2
     subst e1;exact ⟨R,hR,Q6 _ _ _⟩
  ·rename_i ho
   exact lift h (fun r _=>rfl) (fun r q h _=>absurd h (by simpa using ho))
 | [],_::_,rs,rs',h,_=>by simp [Qbw] at h
 | _::_,[],rs,rs',h,_=>by simp [Qbw] at h
theorem Qgb:∀ (n:Nat) {sz:Nat} {xs:Els} {ρ:QaO} {s:Nat} {ro:Bool} {ys:Els}, QcQ n xs=false→QaB sz false xs ρ=some (s,ro,ys)→ro=false
 | n,sz,xs,[],s,ro,ys,hb,h=>by simp only [QaB,Option.some.injEq,Prod.mk.injEq] at h;exact h.2.1.symm
 | 0,sz,xs,(i,c)::ρ,s,ro,ys,hb,h=>by simp [QcQ] at hb
 | n+1,sz,xs,(i,c)::ρ,s,ro,ys,hb,h=>by
  obtain ⟨p,bo,sz',zs,hc,h'⟩:=QaZ h
  obtain ⟨el,h1,h2⟩:=Qas hc
  simp only [QcQ,List.any_eq_false] at hb
  have h3:=hb el (List.mem_of_getElem? h1)
  simp only [Bool.not_eq_true,List.any_eq_false] at h3
  have h4:=h3 _ (List.mem_of_getElem? h2)
  simp only [Bool.not_eq_true,Bool.or_eq_false_iff] at h4
  obtain ⟨rfl,h5⟩:=h4
  exact Qgb n h5 (by simpa using h')
theorem QfX {v:AV} (h:Qeg v=false) {R:Qaj} (hR:R∈Qft v) {G:Gh} {ρ:QaO} {b:Nat} : ¬R.Key G true ρ b:=fun ⟨s,ys,o,h1,h2⟩=>by
 cases v <;> simp only [Qft,List.mem_singleton,List.not_mem_nil] at hR
 subst hR
 simp only [Qeg,Bool.or_eq_false_iff] at h
 obtain ⟨rfl,h⟩:=h
 have:=Qgb 6 h (by simpa using h1)
 cases this
theorem Qk2 {v:AV} (h:QcX v=false) {R:Qaj} (hR:R∈Qlm v) {G:Gh} {ρ:QaO} {b:Nat} : ¬R.Key G true ρ b:=by
 have list:∀ {cs:List AV}, cs.any Qeg=false→R∈cs.flatMap Qft→¬R.Key G true ρ b:=fun {cs} h hR=>by
  obtain ⟨c,h1,h2⟩:=List.mem_flatMap.1 hR
  simp only [List.any_eq_false] at h
  exact QfX (by simpa using h c h1) h2
 cases v <;> first|exact list h hR|(simp only [QcX] at h;simp only [Qlm] at hR;exact QfX h hR)
theorem Qi3 {vs:List AV} (h:vs.any QcX=false) {gs:List Gh} {k:Nat} {ρ:QaO} {b:Nat} : ¬KOf (QaJ vs) gs true k ρ b:=fun ⟨R,G,h1,h2,h3⟩=>by
 obtain ⟨c,g1,g2⟩:=List.mem_flatMap.1 (List.mem_of_getElem? h1)
 simp only [List.any_eq_false] at h
 exact Qk2 (by simpa using h c g1) g2 h3
end Go.Proofs.YtallpjhkmcgpoaaGreat.V
end
section
namespace Go.Proofs.YtallpjhkmcgpoaaGreat.V
open Go
section
variable {P:Program} {D D':Nat→Prop} {A:Nat→Gh} {rs:Rs} {w:World} {cx:Cx} {w0:World}
theorem Qya {D:Nat→Prop} {A:Nat→Gh} {rs:Rs} {w:World} : ∀ {l:List AV} {vs:List Value}, Pw (V1 D A rs w) l vs→VR D A rs w (QfE l) (QdH vs)
 | [],[],h=>by simp only [QdH,QfE,VR];exact ⟨_,rfl,h⟩
 | [x],[v],h=>by
  obtain ⟨y,ys,e,h1,_⟩:=h.head
  injection e with e1 e2;subst e1
  exact h1.vr
 | x::y::l,u::v::vs,h=>by simp only [QdH,QfE,VR];exact ⟨_,rfl,h⟩
 | [],_::_,h=>by have:=h.1;simp at this
 | [x],[],h=>by have:=h.1;simp at this
 | [x],_::_::_,h=>by have:=h.1;simp at this
 | _::_::_,[],h=>by have:=h.1;simp at this
 | _::_::_,[_],h=>by have:=h.1;simp at this
def Qyc (A:Nat→Gh) (rs:Rs) (w:World) (A':Nat→Gh) (rs':Rs) (w':World):Prop:=∀ r R R',rs r=some R→rs' r=some R'→R'.pv=R.pv→R'.xs=R.xs∧A' r=A r∧∀ f σ b,R.Key (A r) f σ b→w'.heap[b]? = w.heap[b]?
theorem QpX {call:QaM} (hctr:∀ f ds out,call f ds=some out→Ctr P f ds out) (hh:HR cx w A rs) (hf:Fr cx w0 w) (hi:∀ r R,rs r=some R→D r) {vs:List AV} {vals:List Value} (hv:Pw (VR D A rs w) vs vals)
 {f fresh:Nat} {ms:List Bool} {av:AV} {rs':Rs} (hc:QeL call fresh rs f ms vs=some (av,rs')) (hfree:∀ j,j<16→¬D (fresh+j)) (hD:∀ r,D r→D' r) (hD':∀ j,j<16→D' (fresh+j)) :
 Calls P f vals.toArray w fun e w'=>∃ v A',e = .returned v∧Qcc cx w0 D D' A rs w A' rs' w'∧VR D' A' rs' w' av v∧Qyc A rs w A' rs' w':=by
 simp only [QeL,Option.bind_eq_some_iff] at hc
 obtain ⟨⟨ds,us⟩,hds,hc⟩:=hc
 split at hc
 ·rename_i hok
  simp only [Option.bind_eq_some_iff] at hc
  obtain ⟨⟨res,back⟩,hcall,hc⟩:=hc
  split at hc
  ·rename_i hcond
   obtain ⟨hbor,hfew,hblen⟩:=hcond
   simp only [Option.map_eq_some_iff] at hc
   obtain ⟨rsB,hpb,hc⟩:=hc
   injection hc with hav hrs
   obtain ⟨gs,hHV,hAL⟩:=Qis hh hv hds
   obtain ⟨pb1,pb2⟩:=QgB hpb hok
   have kown:∀ {k ρ b}, KOf (QaJ ds) gs false k ρ b→∃ u r R,us[k]? = some u∧u.own=true∧u.at'=some (r,[])∧rs r=some R∧R.Key (A r) false ρ b∧gs[k]? = some (A r):=fun {k ρ b} ⟨R,G,h1,h2,h3⟩=>by
    have hk:k<us.length:=by rw [←hAL.len2];exact (List.getElem?_eq_some_iff.1 h1).1
    obtain ⟨e1,e2⟩:=hAL.at' k R G us[k] h1 h2 (List.getElem?_eq_getElem hk)
    have hRo:R.own=true:=by
     cases e:R.own with
     | true=>rfl
     | false=>obtain ⟨o,s,p,x⟩:=R;simp only at e;subst e;exact absurd h3 Qs0
    rw [hRo] at e1
    cases ha:us[k].at' with
    | none =>
     rw [ha] at e2
     obtain ⟨_,rfl⟩:=e2
     obtain ⟨s,ys,o,_,h⟩:=h3;cases h
    | some x =>
     obtain ⟨r,q⟩:=x
     rw [ha] at e2
     obtain ⟨Rr,g1,g2,_⟩:=e2
     obtain ⟨rfl,g3,g4,g5,g6⟩:=g2 e1
     rcases g6 with rfl|⟨rfl,_⟩
     ·exact ⟨us[k],r,Rr,List.getElem?_eq_getElem hk,e1,ha,g1,by unfold Qaj.Key at h3 ⊢; rw [←g4, ←g5,g3];rw [hRo] at h3;exact h3,h2⟩
     ·obtain ⟨s,ys,o,_,h⟩:=h3;cases h
   have kown_lt:∀ {k ρ b}, KOf (QaJ ds) gs false k ρ b→b<w.heap.size∧(cx.base≤b∨cx.O b):=fun h=>by
    obtain ⟨u,r,R,_,_,_,h1,h2,_⟩:=kown h
    exact ⟨Key.lt (hh.tree r R h1) h2,hh.own r R _ _ h1 h2⟩
   have ksta:∀ {k ρ b}, KOf (QaJ ds) gs true k ρ b→∃ u r q R f ρ',us[k]? = some u∧u.at'=some (r,q)∧rs r=some R∧R.Key (A r) f ρ' b∧(u.own=true→f=true)∧(u.ro=true→u.own=false→cx.S b):=fun {k ρ b} ⟨R,G,h1,h2,h3⟩=>by
    have hk:k<us.length:=by rw [←hAL.len2];exact (List.getElem?_eq_some_iff.1 h1).1
    obtain ⟨e1,e2⟩:=hAL.at' k R G us[k] h1 h2 (List.getElem?_eq_getElem hk)
    cases ha:us[k].at' with
    | none =>
     rw [ha] at e2
     obtain ⟨_,rfl⟩:=e2
     obtain ⟨s,ys,o,_,h⟩:=h3;cases h
    | some x =>
     obtain ⟨r,q⟩:=x
     rw [ha] at e2
     obtain ⟨Rr,g1,g2,g3⟩:=e2
     cases ho:us[k].own with
     | true =>
      obtain ⟨rfl,g4,g5,g6,g7⟩:=g2 ho
      rcases g7 with rfl|⟨rfl,_⟩
      ·rw [ho] at e1
       exact ⟨us[k],r,[],Rr,true,ρ,List.getElem?_eq_getElem hk,ha,g1,by unfold Qaj.Key at h3 ⊢; rw [←g5, ←g6,g4];rw [←e1] at h3;exact h3,fun _=>rfl,fun _ h=>by rw [ho] at h;cases h⟩
      ·obtain ⟨s,ys,o,_,h⟩:=h3;cases h
     | false =>
      obtain ⟨g4,g5⟩:=g3 ho
      obtain ⟨f',ρ',g6⟩:=g4 ρ b h3
      exact ⟨us[k],r,q,Rr,f',ρ',List.getElem?_eq_getElem hk,ha,g1,g6,(fun h=>by rw [ho] at h;cases h),fun h _=>g5 h ρ b h3⟩
   have ownS:∀ {b}, cx.S b→(cx.base≤b∨cx.O b)→False:=fun hs ho=>by
    have:=cx.ok _ hs
    rcases ho with h|h
    ·omega
    ·exact this.2 h
   have kinj:∀ k ρ k' ρ' b,KOf (QaJ ds) gs false k ρ b→KOf (QaJ ds) gs false k' ρ' b→k=k'∧ρ=ρ':=fun k ρ k' ρ' b h h'=>by
    obtain ⟨u,r,R,a1,a2,a3,a4,a5,_⟩:=kown h
    obtain ⟨u',r',R',b1,b2,b3,b4,b5,_⟩:=kown h'
    obtain ⟨rfl,rfl⟩:=hh.inj _ _ _ _ _ _ b a4 a5 b4 b5
    refine ⟨?_,rfl⟩
    exact Classical.byContradiction fun hne=>QcG hok a1 b1 hne a2 a3 b3
   have kdis:∀ {k ρ k' ρ' b}, KOf (QaJ ds) gs true k ρ b→KOf (QaJ ds) gs false k' ρ' b→False:=fun {k ρ k' ρ' b} h h'=>by
    obtain ⟨u,r,q,R,f',σ,a1,a2,a3,a4,a5,a6⟩:=ksta h
    obtain ⟨u',r',R',b1,b2,b3,b4,b5,_⟩:=kown h'
    cases f' with
    | true=>exact ownS (hh.sta r R σ b a3 a4) (hh.own r' R' ρ' b b4 b5)
    | false =>
     obtain ⟨rfl,_⟩:=hh.inj _ _ _ _ _ _ b a3 a4 b4 b5
     by_cases hne:k=k'
     ·subst hne
      rw [a1] at b1;injection b1 with b1;subst b1
      cases a5 b2
     ·exact QcG hok b1 a1 (Ne.symm hne) b2 b3 a2
   obtain ⟨S',hS1,hS2,hS3,hS4⟩:∃ S':Nat→Prop,(∀ b,S' b→b<w.heap.size)∧(∀ k ρ b,KOf (QaJ ds) gs true k ρ b→S' b)∧(∀ k ρ b,KOf (QaJ ds) gs false k ρ b→¬S' b) ∧
    ((∀ b,S' b→cx.S b)∨(res.any QcX=false∧back.any QdT=false)):=by
    by_cases hall:(us.all fun u=>u.own || u.ro)=true
    ·refine ⟨cx.S,fun b h=>Nat.lt_of_lt_of_le (cx.ok b h).1 hf.base,fun k ρ b h => ?_,fun k ρ b h hs=>ownS hs (kown_lt h).2, .inl fun b h=>h⟩
     obtain ⟨u,r,q,R,f',σ,a1,a2,a3,a4,a5,a6⟩:=ksta h
     have hu:=List.all_eq_true.1 hall u (List.mem_of_getElem? a1)
     cases ho:u.own with
     | true=>have:=a5 ho;subst this;exact hh.sta r R σ b a3 a4
     | false=>rw [ho] at hu;exact a6 (by simpa using hu) ho
    ·refine ⟨fun b=>∃ k ρ,KOf (QaJ ds) gs true k ρ b,fun b ⟨k,ρ,h⟩ => ?_,fun k ρ b h=>⟨k,ρ,h⟩,fun k ρ b h ⟨k',ρ',h'⟩=>kdis h' h, .inr ?_⟩
     ·obtain ⟨u,r,q,R,f',σ,a1,a2,a3,a4,a5,a6⟩:=ksta h
      exact Key.lt (hh.tree r R a3) a4
     ·rcases Bool.or_eq_true _ _▸hbor with h|h
      ·exact absurd h hall
      ·simpa using h
   have hcontract:=hctr f ds (res,back) hcall w S' vals gs hS1 hHV hS2 hS3 kinj
   refine hcontract.mono fun e w' hpost => ?_
   obtain ⟨v,vs',gs',gb,rfl,hp⟩:=hpost
   have hrts:(Qam res fresh).2=QaJ res:=QdB res fresh
   have hRG:RG w' (QaJ res) gs':=by
    have:=(Qdp hp.res fresh).1
    rwa [hrts] at this
   rw [hrts] at hfew hrs
   have hlenR:(QaJ res).length=gs'.length:=hRG.1
   have hrs':∀ r,rs' r=if fresh≤r∧r<fresh+(QaJ res).length then (QaJ res)[r-fresh]? else rsB r:=fun r=>by
    rw [←hrs];exact Qgf _ _ _ _
   have hnf:∀ {r R}, rs r=some R→¬(fresh≤r∧r<fresh+(QaJ res).length):=fun {r R} h1 h2=>by
    have:=hfree (r-fresh) (by omega)
    rw [show fresh+(r-fresh)=r by omega] at this
    exact this (hi r R h1)
   have ownq:∀ {k:Nat} {u:Use} {r:Nat} {q:QaO}, us[k]? = some u→u.own=true→u.at'=some (r,q)→q=[]∧∃ R:Qaj,rs r=some R∧R.own=true∧∃ (Rk:Qaj) (G:Gh),(QaJ ds)[k]? = some Rk∧gs[k]? = some G∧Rk.sz=R.sz∧Rk.xs=R.xs∧(G=A r∨(G=(fun _=>none)∧R.xs=[])):=fun {k u r q} h1 h2 h3=>by
    have hk:k<us.length:=(List.getElem?_eq_some_iff.1 h1).1
    have hk1:k<(QaJ ds).length:=by rw [hAL.len2];exact hk
    have hk2:k<gs.length:=by rw [←hAL.len1];exact hk1
    obtain ⟨e1,e2⟩:=hAL.at' k _ _ u (List.getElem?_eq_getElem hk1) (List.getElem?_eq_getElem hk2) h1
    rw [h3] at e2
    obtain ⟨Rr,g1,g2,_⟩:=e2
    obtain ⟨rfl,g3,g4,g5,g6⟩:=g2 h2
    exact ⟨rfl,Rr,g1,g3,_,_,List.getElem?_eq_getElem hk1,List.getElem?_eq_getElem hk2,g4,g5,g6⟩
   let cond:Nat→Nat→Prop:=fun r k=>∃ u ys,us[k]? = some u∧u.own=true∧u.at'=some (r,[])∧gs[k]? = some (A r)∧back[k]? = some (some ys)
   let A':Nat→Gh:=fun r=>if fresh≤r∧r<fresh+(QaJ res).length then gs'.getD (r-fresh) (fun _=>none) else (open Classical in if h:∃ k,cond r k then gb h.choose else A r)
   have cond_uniq:∀ {r k k'}, cond r k→cond r k'→k=k':=fun {r k k'} ⟨u,ys,a1,a2,a3,_⟩ ⟨u',ys',b1,b2,b3,_⟩ =>
    Classical.byContradiction fun hne=>QcG hok a1 b1 hne a2 a3 b3
   have hA'c:∀ {r k}, ¬(fresh≤r∧r<fresh+(QaJ res).length)→cond r k→A' r=gb k:=fun {r k} h1 h2=>by
    have hex:∃ k,cond r k:=⟨k,h2⟩
    simp only [A',if_neg h1,dif_pos hex]
    rw [cond_uniq hex.choose_spec h2]
   have hA'n:∀ {r}, ¬(fresh≤r∧r<fresh+(QaJ res).length)→(∀ k,¬cond r k)→A' r=A r:=fun {r} h1 h2=>by
    have hex:¬ ∃ k,cond r k:=fun ⟨k,h⟩=>h2 k h
    simp only [A',if_neg h1,dif_neg hex]
   have cls:∀ {r R'}, rs' r=some R' →
    (∃ j,r=fresh+j∧(QaJ res)[j]? = some R'∧gs'[j]? = some (A' r)) ∨
    (∃ k R Rk ys u,us[k]? = some u∧u.at'=some (r,[])∧rs r=some R∧R.own=true∧(QaJ ds)[k]? = some Rk∧Rk.sz=R.sz∧back[k]? = some (some ys)∧R' = { R with pv:=R.pv+1,xs:=ys } ∧ ys.length=R.xs.length∧A' r=gb k∧gb k []=A r []∧Qbg w' false R.sz (gb k) ys) ∨
    (∃ R,rs r=some R∧R.sz=R'.sz∧R.own=R'.own∧R.xs=R'.xs∧R.pv≤R'.pv∧A' r=A r∧∀ k ρ b f σ,KOf (QaJ ds) gs false k ρ b→R.Key (A r) f σ b→False):=fun {r R'} h=>by
    rw [hrs'] at h
    split at h
    ·rename_i hin
     refine .inl ⟨r-fresh,by omega,h, ?_⟩
     obtain ⟨G,g1,_⟩:=hRG.2 _ R' h
     have:A' r=G:=by
      simp only [A',if_pos hin,List.getD_eq_getElem?_getD,g1,Option.getD_some]
     rw [this];exact g1
    ·rename_i hin
     by_cases hown:∃ (k:Nat) (u:Use) (q:QaO),us[k]? = some u∧u.own=true∧u.at'=some (r,q)
     ·obtain ⟨k,u,q,h1,h2,h3⟩:=hown
      obtain ⟨rfl,R,g1,g2,Rk,G,g3,g4,g5,g6,g7⟩:=ownq h1 h2 h3
      have hk:k<back.length:=by rw [hblen];exact (List.getElem?_eq_some_iff.1 h1).1
      have hb:=pb2 k u r [] back[k] h1 h2 h3 (List.getElem?_eq_getElem hk)
      cases e:back[k] with
      | none=>rw [e] at hb;rw [hb] at h;cases h
      | some ys =>
       rw [e] at hb
       obtain ⟨R2,e1,e2⟩:=hb
       rw [g1] at e1;injection e1 with e1;subst e1
       rw [e2] at h;injection h with h;subst h
       have hbk:back[k]? = some (some ys):=by rw [List.getElem?_eq_getElem hk,e]
       obtain ⟨p1,p2,p3,p4⟩:=hp.back k Rk G ys g3 g4 hbk
       by_cases hz:G=A r
       ·subst hz
        right;left
        exact ⟨k,R,Rk,ys,u,h1,h3,g1,g2,g3,g5,hbk,rfl,by rw [p3,g6],hA'c hin ⟨u,ys,h1,h2,h3,g4,hbk⟩,p2,by rw [←g5];exact p4⟩
       ·have g8:R.xs=[]:=by
         rcases g7 with g7|g7
         ·exact absurd g7 hz
         ·exact g7.2
        right;right
        have hys:ys=[]:=List.eq_nil_of_length_eq_zero (by rw [p3,g6,g8];rfl)
        refine ⟨R,g1,rfl,rfl,by rw [g8,hys],by simp,hA'n hin fun k2 ⟨u2,ys2,c1,c2,c3,c4,c5⟩ => ?_,fun k2 ρ b f σ hk2 hk3 => ?_⟩
        ·by_cases hne:k=k2
         ·subst hne;rw [g4] at c4;injection c4 with c4;exact hz c4
         ·exact QcG hok h1 c1 hne h2 h3 c3
        ·obtain ⟨u2,r2,R2,a1,a2,a3,a4,a5,a6⟩:=kown hk2
         cases f with
         | true=>exact ownS (hh.sta r R σ b g1 hk3) (hh.own r2 R2 ρ b a4 a5)
         | false =>
          obtain ⟨rfl,_⟩:=hh.inj _ _ _ _ _ _ b g1 hk3 a4 a5
          by_cases hne:k=k2
          ·subst hne;rw [g4] at a6;injection a6 with a6;exact hz a6
          ·exact QcG hok h1 a1 hne h2 h3 a3
     ·right;right
      have hno:∀ (k:Nat) u q,us[k]? = some u→u.own=true→u.at'≠some (r,q):=fun k u q h1 h2 h3=>hown ⟨k,u,q,h1,h2,h3⟩
      rw [pb1 r hno] at h
      refine ⟨R',h,rfl,rfl,rfl,Nat.le_refl _,hA'n hin fun k ⟨u,ys,c1,c2,c3,_⟩=>hno k u [] c1 c2 c3,fun k ρ b f σ hk2 hk3 => ?_⟩
      obtain ⟨u2,r2,R2,a1,a2,a3,a4,a5,a6⟩:=kown hk2
      cases f with
      | true=>exact ownS (hh.sta r R' σ b h hk3) (hh.own r2 R2 ρ b a4 a5)
      | false =>
       obtain ⟨rfl,_⟩:=hh.inj _ _ _ _ _ _ b h hk3 a4 a5
       exact hno _ _ _ a1 a2 a3
   have hKey:∀ {r R' f ρ b}, rs' r=some R'→R'.Key (A' r) f ρ b→(∃ j,r=fresh+j∧KOf (QaJ res) gs' f j ρ b)∨(∃ (k:Nat) (u:Use),us[k]? = some u∧u.at'=some (r,[])∧KBk (QaJ ds) gb back f k ρ b) ∨
    (∃ R,rs r=some R∧R.Key (A r) f ρ b∧∀ k ρ',¬KOf (QaJ ds) gs false k ρ' b):=fun {r R' f ρ b} h hk=>by
    rcases cls h with ⟨j,e1,e2,e3⟩|⟨k,R,Rk,ys,u,a1,a2,a3,a4,a5,a6,a7,a8,a9,a10,a11,a12⟩|⟨R,a1,a2,a3,a4,a5,a6,a7⟩
    ·exact .inl ⟨j,e1,R',A' r,e2,e3,hk⟩
    ·refine .inr (.inl ⟨k,u,a1,a2,Rk,ys,a5,a7, ?_⟩)
     subst a8
     rw [a10] at hk
     unfold Qaj.Key at hk ⊢
     simp only [a4] at hk
     rw [a6];exact hk
    ·rw [a6] at hk
     have hk':R.Key (A r) f ρ b:=by unfold Qaj.Key at hk ⊢; rw [a2,a3,a4];exact hk
     exact .inr (.inr ⟨R,a1,hk',fun k ρ' hk2=>a7 k ρ' b f ρ hk2 hk'⟩)
   have noB:∀ {k ρ b}, back.any QdT=false→¬KBk (QaJ ds) gb back true k ρ b:=fun {k ρ b} hb ⟨R,ys,h1,h2,s,zs,o,h3,_⟩=>by
    simp only [List.any_eq_false] at hb
    have:=hb _ (List.mem_of_getElem? h2)
    have:=Qgb 6 (by simpa [QdT] using this) (by simpa using h3)
    cases this
   have fromO:∀ {b}, (w.heap.size≤b∨∃ k ρ,KOf (QaJ ds) gs false k ρ b)→cx.base≤b∨cx.O b:=fun h=>by
    rcases h with h|⟨k,ρ,h⟩
    ·exact .inl (Nat.le_trans hf.base h)
    ·exact (kown_lt h).2
   have old_ne:∀ {b r R f ρ}, rs r=some R→R.Key (A r) f ρ b→(∀ k ρ',¬KOf (QaJ ds) gs false k ρ' b)→¬(w.heap.size≤b∨∃ k ρ,KOf (QaJ ds) gs false k ρ b):=fun {b r R f ρ} h1 h2 h3 h4=>by
    rcases h4 with h4|⟨k,ρ',h4⟩
    ·have:=Key.lt (hh.tree r R h1) h2;omega
    ·exact h3 k ρ' h4
   have hHR:HR cx w' A' rs':=by
    refine ⟨fun r R' h => ?_,fun r R' ρ b h k => ?_,fun r R' ρ b h k => ?_,fun r R' ρ r2 R2 ρ2 b h k h' k' => ?_⟩
    ·rcases cls h with ⟨j,e1,e2,e3⟩|⟨k,R,Rk,ys,u,a1,a2,a3,a4,a5,a6,a7,a8,a9,a10,a11,a12⟩|⟨R,a1,a2,a3,a4,a5,a6,a7⟩
     ·obtain ⟨G,g1,g2⟩:=hRG.2 j R' e2
      rw [e3] at g1;injection g1 with g1;rw [g1];exact g2
     ·subst a8;rw [a10];simp only [a4];exact a12
     ·rw [a6, ←a2, ←a3, ←a4]
      refine (hh.tree r R a1).mono hp.big fun ρ f b k=>hp.block b (Key.lt (hh.tree r R a1) k) fun k2 ρ2 hk2=>a7 k2 ρ2 b f ρ hk2 k
    ·rcases hKey h k with ⟨j,_,e⟩|⟨j,u,_,_,e⟩|⟨R,e1,e2,_⟩
     ·exact fromO (hp.rown j ρ b e)
     ·exact fromO (hp.bown j ρ b e)
     ·exact hh.own r R ρ b e1 e2
    ·rcases hKey h k with ⟨j,_,e⟩|⟨j,u,_,_,e⟩|⟨R,e1,e2,_⟩
     ·rcases hS4 with hs|⟨hs,_⟩
      ·exact hs b (hp.rsta j ρ b e)
      ·exact absurd e (Qi3 hs)
     ·rcases hS4 with hs|⟨_,hs⟩
      ·exact hs b (hp.bsta j ρ b e)
      ·exact absurd e (noB hs)
     ·exact hh.sta r R ρ b e1 e2
    ·rcases hKey h k with ⟨j,e1,e⟩|⟨j,u,e1,e2,e⟩|⟨R,e1,e2,e3⟩ <;> rcases hKey h' k' with ⟨j',e1',e'⟩|⟨j',u',e1',e2',e'⟩|⟨R',e1',e2',e3'⟩
     ·obtain ⟨rfl,rfl⟩:=hp.rinj _ _ _ _ b e e'
      exact ⟨e1.trans e1'.symm,rfl⟩
     ·exact absurd e' (hp.xinj _ _ _ _ b e)
     ·exact absurd (hp.rown _ _ b e) (old_ne e1' e2' e3')
     ·exact absurd e (hp.xinj _ _ _ _ b e')
     ·obtain ⟨rfl,rfl⟩:=hp.binj _ _ _ _ b e e'
      rw [e1] at e1';injection e1' with e1';subst e1'
      rw [e2] at e2';injection e2' with e2';injection e2' with e2' _
      exact ⟨e2',rfl⟩
     ·exact absurd (hp.bown _ _ b e) (old_ne e1' e2' e3')
     ·exact absurd (hp.rown _ _ b e') (old_ne e1 e2 e3)
     ·exact absurd (hp.bown _ _ b e') (old_ne e1 e2 e3)
     ·exact hh.inj _ _ _ _ _ _ b e1 e2 e1' e2'
   have hst:Qcc cx w0 D D' A rs w A' rs' w':=by
    refine ⟨hHR,⟨fun x hx hn=>hA'n (fun hin => ?_) fun k ⟨u,ys,c1,c2,c3,_⟩ => ?_,fun r R' hDr h => ?_⟩,hp.big,⟨Nat.le_trans hf.base hp.size,fun b hb ho => ?_,hp.os.trans hf.os,hp.tape.trans hf.tape,hp.output.trans hf.output,Nat.le_trans hf.drawn hp.drawn⟩,fun r R' h => ?_,hp.size,fun b hb hno=>hp.block b hb fun k ρ hk => ?_,fun r R' ρ b h k => ?_⟩
    ·have:=hfree (x-fresh) (by omega)
     rw [show fresh+(x-fresh)=x by omega] at this
     exact this hx
    ·obtain ⟨_,R,g,_⟩:=ownq c1 c2 c3
     rw [hn] at g;cases g
    rotate_left 3
    ·obtain ⟨u,r,R,_,_,_,h1,h2,_⟩:=kown hk
     exact hno r R ρ h1 h2
    ·have ofO:(w.heap.size≤b∨∃ k ρ,KOf (QaJ ds) gs false k ρ b)→w.heap.size≤b∨∃ r0 R0 ρ0,rs r0=some R0∧R0.Key (A r0) false ρ0 b:=fun h=>by
      rcases h with h|⟨k,ρ,h⟩
      ·exact .inl h
      ·obtain ⟨u,r,R,_,_,_,h1,h2,_⟩:=kown h
       exact .inr ⟨r,R,ρ,h1,h2⟩
     rcases hKey h k with ⟨j,_,e⟩|⟨j,u,_,_,e⟩|⟨R,e1,e2,_⟩
     ·exact ofO (hp.rown j ρ b e)
     ·exact ofO (hp.bown j ρ b e)
     ·exact .inr ⟨r,R,ρ,e1,e2⟩
    ·rcases cls h with ⟨j,e1,e2,e3⟩|⟨k,R,Rk,ys,u,a1,a2,a3,a4,a5,a6,a7,a8,a9,a10,a11,a12⟩|⟨R,a1,a2,a3,a4,a5,a6,a7⟩
     ·have hj:j<16:=Nat.lt_of_lt_of_le (List.getElem?_eq_some_iff.1 e2).1 hfew
      exact absurd (e1▸hDr) (hfree j hj)
     ·subst a8
      exact ⟨R,a3,by simp,rfl,rfl,a9.symm,by rw [a10,a11],fun hpv=>by simp at hpv⟩
     ·refine ⟨R,a1,a5,a2,a3,by rw [a4],by rw [a6],fun _ q s ro ys' h'=>⟨ys',by rw [a2,a3,a4];exact h',rfl,by rw [a6]⟩⟩
    ·refine (hp.block b (Nat.lt_of_lt_of_le hb hf.base) fun k ρ hk => ?_).trans (hf.block b hb ho)
     rcases (kown_lt hk).2 with h|h
     ·omega
     ·exact ho h
    ·rcases cls h with ⟨j,e1,e2,e3⟩|⟨k,R,Rk,ys,u,a1,a2,a3,a4,a5,a6,a7,a8,a9,a10,a11,a12⟩|⟨R,a1,a2,a3,a4,a5,a6,a7⟩
     ·have hj:j<16:=Nat.lt_of_lt_of_le (List.getElem?_eq_some_iff.1 e2).1 hfew
      rw [e1];exact hD' j hj
     ·exact hD r (hi r R a3)
     ·exact hD r (hi r R a1)
   have hkeep:Qyc A rs w A' rs' w':=fun r R R' h1 h2 hpv=>by
    rcases cls h2 with ⟨j,e1,e2,e3⟩|⟨k,R1,Rk,ys,u,a1,a2,a3,a4,a5,a6,a7,a8,a9,a10,a11,a12⟩|⟨R1,a1,a2,a3,a4,a5,a6,a7⟩
    ·have hj:j<(QaJ res).length:=(List.getElem?_eq_some_iff.1 e2).1
     exact absurd ⟨by omega,by omega⟩ (hnf h1)
    ·rw [h1] at a3;injection a3 with a3;subst a3
     subst a8
     simp at hpv
    ·rw [h1] at a1;injection a1 with a1;subst a1
     exact ⟨a4.symm,a6,fun f σ b k=>hp.block b (Key.lt (hh.tree r R h1) k) fun k2 ρ2 hk2=>a7 k2 ρ2 b f σ hk2 k⟩
   refine ⟨v,A',rfl,hst, ?_,hkeep⟩
   have hpw:=(Qdp hp.res fresh).2 (D:=D') (A:=A') (rs:=rs') (by
    rw [hrts]
    intro k R G h1 h2
    have hk:k<(QaJ res).length:=(List.getElem?_eq_some_iff.1 h1).1
    have hin:fresh≤fresh+k∧fresh+k<fresh+(QaJ res).length:=⟨by omega,by omega⟩
    refine ⟨by rw [hrs',if_pos hin];simpa using h1, ?_,hD' k (by omega)⟩
    simp only [A',if_pos hin,List.getD_eq_getElem?_getD]
    rw [show fresh+k-fresh=k by omega,h2];rfl)
   rw [←hav,hp.val]
   exact Qya hpw
  ·cases hc
 ·cases hc
end
end Go.Proofs.YtallpjhkmcgpoaaGreat.V
end
section
namespace Go.Proofs.YtallpjhkmcgpoaaGreat.V
open Go
def QbM (P:Program) (f:Nat):Bool:=match P.funcs[f]? with|some fn=>fn.body.isSome && fn.name != "runtime.NumGoroutine" | none=>false
def QqS:TypeDesc→Bool
 | .int _=>false
 | _=>true
def isU:X→Bool
 | .k .undef=>true
 | _=>false
theorem Qv6 {x:X} (h:isU x=true):x = .k .undef:=by
 unfold isU at h
 split at h
 ·rfl
 ·cases h
def QAa:X→Bool
 | .t _=>true
 | .k .undef=>true
 | _=>false
def isT:X→Bool
 | .t _=>true
 | .k _=>false
def QsZ (n:String):Bool:=(Extern.allGenericRows.lookup n).isNone && (Extern.allTypedRows.lookup n).isNone && (Extern.allRows.lookup n).isNone
def QsV (P:Program) (fn:Func) (sz:Nat):Bool:=fn.body.isNone && !(fn.name == "runtime.NumGoroutine") && (Extern.findNext fn).isNone && QsZ fn.name && fn.origin == "slices.overlaps" && decide (0<sz) &&
 (fn.params[0]?).any fun t=>match P.underlying t with
  | some (.slice e)=>Qen P e sz
  | _=>false
def Qdc (P:Program) (o:Oper):I→Bool
 | .mv x=>match o.op with | .move y=>xOk y x | .assign y=>xOk y x|_=>false
 | .pick c a b=>match o.op with | .pick c' a' b'=>xOk c' c && xOk a' a && xOk b' b|_=>false
 | .nilc x=>match o.op with | .nilCheck y=>xOk y x|_=>false
 | .bin op kd x y=>match o.op with | .binOp op' t x' y' _=>decide (op'=op) && xOk x' x && xOk y' y && Qjf P t kd|_=>false
 | .eqA neg ks x y=>match o.op with | .binOp op' t x' y' _=>decide (op'=if neg then .neq else .eql) && xOk x' x && xOk y' y && QeQ P t ks|_=>false
 | .un op x=>match o.op with | .unOp op' _ x'=>decide (op'=op) && xOk x' x|_=>false
 | .build zero parts=>match o.op with
  | .build t ps=>match P.underlying t,(P.info? t).bind (·.zero) with
   | some (.struct fs),some z=>Qf1 P fs && Qhh zero z.cells.toList && Qek P fs ps.toList parts
   | _,_=>false
  | _=>false
 | .field off n x=>match o.op with
  | .field t x' f=>match P.underlying t with
   | some (.struct fs)=>match fs[f]? with
    | some fd=>xOk x' x && fd.offset == off && QcF P fd.type n
    | none=>false
   | _=>false
  | _=>false
 | .ext j x=>isU x || match o.op with | .extract x' j'=>xOk x' x && j' == j|_=>false
 | .idxS x j=>match o.op with | .index t x' j'=>xOk x' x && xOk j' j && (match P.underlying t with|some .string=>true|_=>false)|_=>false
 | .idxA len sz n x j=>match o.op with
  | .index t x' j'=>match P.underlying t with
   | some (.array len' el)=>xOk x' x && xOk j' j && len' == len && Qen P el sz && QcF P el n
   | _=>false
  | _=>false
 | .slS x lo hi=>match o.op with | .slice t x' lo' hi' none=>xOk x' x && Qfo lo' lo && Qfo hi' hi && (match P.underlying t with|some .string=>true|_=>false)|_=>false
 | .slR sz x lo hi=>match o.op with
  | .slice t x' lo' hi' none=>match P.underlying t with
   | some (.slice el)=>xOk x' x && Qfo lo' lo && Qfo hi' hi && Qen P el sz
   | _=>false
  | _=>false
 | .slC sz x lo hi=>match o.op with
  | .slice t x' lo' hi' none=>match P.underlying t with
   | some (.slice el)=>xOk x' x && Qfo lo' lo && Qfo hi' hi && Qen P el sz
   | _=>false
  | _=>false
 | .slX sz k x hi=>match o.op with
  | .slice t x' none (some hi') none=>match P.underlying t with
   | some (.slice el)=>isT k && xOk x' x && xOk hi' hi && Qen P el sz && decide (0<sz)
   | _=>false
  | _=>false
 | .slM sz x lo hi mx=>match o.op with
  | .slice t x' lo' (some hi') (some mx')=>match P.underlying t with
   | some (.slice el)=>xOk x' x && Qfo lo' lo && Qfo (some hi') hi && Qfo (some mx') mx && Qen P el sz
   | _=>false
  | _=>false
 | .len isS x=>match o.op with
  | .call c=>match c.callee,c.args.toList,c.argTypes.toList with
   | .builtin .len,[x'],[t]=>xOk x' x && (match P.underlying t with|some .string=>isS|some (.slice _) => !isS|_=>false)
   | _,_,_=>false
  | _=>false
 | .cap x=>match o.op with
  | .call c=>match c.callee,c.args.toList,c.argTypes.toList with
   | .builtin .cap,[x'],[t]=>xOk x' x && (match P.underlying t with|some (.slice _)=>true|_=>false)
   | _,_,_=>false
  | _=>false
 | .conv k x=>match o.op with | .convert s d x'=>xOk x' x && (P.underlying s).isSome && (match P.underlying d with|some (.int k')=>decide (k'=k)|_=>false)|_=>false
 | .faddr off x=>match o.op with
  | .fieldAddr t x' f=>match P.underlying t with
   | some (.struct fs)=>match fs[f]? with
    | some fd=>xOk x' x && fd.offset == off && (P.info? fd.type).any (fun i=>i.size != 0)
    | none=>false
   | _=>false
  | _=>false
 | .iaddr sz x j=>match o.op with
  | .indexAddr t x' j'=>match P.underlying t with
   | some (.slice el)=>xOk x' x && xOk j' j && Qen P el sz
   | _=>false
  | _=>false
 | .mkfn f caps=>match o.op with | .makeFunc (.func f') first caps'=>f' == f && first.isEmpty && Qlr caps'.toList caps|_=>false
 | .mm mx xs=>match o.op with
  | .call c=>match c.callee with
   | .builtin b=>decide (b=if mx then .max else .min) && Qlr c.args.toList xs
   | _=>false
  | _=>false
 | .bts x=>match o.op with
  | .convert s d x'=>match P.underlying s,P.underlying d with
   | some (.slice e),some .string=>xOk x' x && (match P.underlying e with|some (.int .u8)=>true|_=>false)
   | _,_=>false
  | _=>false
 | .ovl sz x y=>match o.op with
  | .call c=>match c.callee,c.args.toList with
   | .value (.func f),[x',y']=>xOk x' x && xOk y' y && (P.funcs[f]?).any fun fn=>QsV P fn sz
   | _,_=>false
  | _=>false
 | .load n a=>match o.op with | .load t a'=>xOk a' a && QcF P t n|_=>false
 | .store n a v=>match o.op with | .store t a' v'=>xOk a' a && xOk v' v && Qen P t n && decide (0<n)|_=>false
 | .box n x=>match o.op with | .box _ x'=>xOk x' x|_=>false
 | .boxK x=>match o.op with | .box _ x'=>xOk x' x|_=>false
 | .alloc zero=>match o.op with | .alloc e=>QdD P e zero|_=>false
 | .lit sz len zero parts=>match o.op with
  | .buildSlice t len' ps=>match P.underlying t with
   | some (.slice e)=>QdD P e zero && zero.length == sz && decide (0<sz) && len' == len && decide (len * sz≤16777216) && QfR ps.toList parts
   | _=>false
  | _=>false
 | .mks sz by' zero n=>match o.op with
  | .makeSlice t x y=>match P.underlying t with
   | some (.slice e)=>xOk x n && xOk y n && QdD P e zero && zero.length == sz && decide (0<sz) && (P.info? e).map (·.bytes) == some by' && decide (0<by')
   | _=>false
  | _=>false
 | .app sz by' x y=>match o.op with
  | .call c=>match c.callee,c.args.toList,c.argTypes.toList with
   | .builtin .append,[x',y'],[t,t2]=>match P.underlying t,P.underlying t2 with
    | some (.slice e),some d=>xOk x' x && xOk y' y && QqS d && (P.info? e).any fun i=>i.size == sz && i.bytes == by' && (i.zero.any fun z=>z.cells.size == sz && z.cells.toList.all (·.oneCell')) && decide (0<sz) && decide (0<by')
    | _,_=>false
   | _,_,_=>false
  | _=>false
 | .appZ by' zero k x y=>match o.op with
  | .call c=>match c.callee,c.args.toList,c.argTypes.toList with
   | .builtin .append,[x',y'],[t,t2]=>match P.underlying t,P.underlying t2 with
    | some (.slice e),some (.int _)=>QAa k && xOk x' x && xOk y' y && QdD P e zero && decide (0<zero.length) && (P.info? e).any fun i=>i.bytes == by' && decide (0<by')
    | _,_=>false
   | _,_,_=>false
  | _=>false
 | .copy sz x y=>match o.op with
  | .call c=>match c.callee,c.args.toList,c.argTypes.toList with
   | .builtin .copy,[x',y'],[t,t2]=>match P.underlying t with
    | some (.slice e)=>xOk x' x && xOk y' y && Qen P e sz
    | _=>false
   | _,_,_=>false
  | _=>false
 | .copyK sz x y=>match o.op with
  | .call c=>match c.callee,c.args.toList,c.argTypes.toList with
   | .builtin .copy,[x',y'],[t,t2]=>match P.underlying t with
    | some (.slice e)=>xOk x' x && xOk y' y && Qen P e sz
    | _=>false
   | _,_,_=>false
  | _=>false
 | .clr zero x=>match o.op with
  | .call c=>match c.callee,c.args.toList,c.argTypes.toList with
   | .builtin .clear,[x'],[t]=>match P.underlying t with
    | some (.slice e)=>xOk x' x && QdD P e zero && decide (0<zero.length)
    | _=>false
   | _,_,_=>false
  | _=>false
 | .call f ms args=>match o.op with
  | .call c=>match c.callee with
   | .value (.func f')=>f' == f && Qlr c.args.toList args
   | _=>false
  | _=>false
 | .callv g ms args=>match o.op with
  | .call c=>match c.callee with
   | .value g'=>xOk g' g && Qlr c.args.toList args
   | _=>false
  | _=>false
section
variable {P:Program} {D D':Nat→Prop} {A:Nat→Gh} {rs:Rs} {w:World} {cx:Cx} {w0:World} {N:Nat} {tm:Tm} {a:Act} {o:Oper}
theorem SR.step (h:SR cx w0 N D A tm rs a w) {A':Nat→Gh} {rs':Rs} {w':World} (st:Qcc cx w0 D D' A rs w A' rs' w') (hD:∀ r,D r→D' r) {d:Option Tmp} (hd:∀ x,d=some x→x<N) {av:AV} {v:Value} (hv:VR D' A' rs' w' av v) :
 SR cx w0 N D' A' (QeN tm d av) rs' (a.put d v) w':=by
 refine ⟨st.heap,fun t => ?_,st.ids, ?_, ?_,st.fr,fun b n hb=>st.big b n (h.big b n hb),fun k hk=>hD k (h.low k hk),fun k hk R' e => ?_⟩
 ·have old:=(h.tmps t).mono hD st.le st.big st.still
  cases d with
  | none=>exact old
  | some x =>
   by_cases e:t=x
   ·subst e
    have hx:=hd t rfl
    have:(a.put (some t) v).tmps.getD t undef=v:=by
     simp only [Act.put,Array.getD_eq_getD_getElem?]
     rw [Array.getElem?_setIfInBounds_self_of_lt (Nat.lt_of_lt_of_le hx h.size)];rfl
    rw [this,QeN,Q6];exact hv
   ·have:(a.put (some x) v).tmps.getD t undef=a.tmps.getD t undef:=by
     simp only [Act.put,Array.getD_eq_getD_getElem?]
     rw [Array.getElem?_setIfInBounds_ne (Ne.symm e)]
    rw [this,QeN,Qaz _ _ e];exact old
 ·cases d <;> simp only [Act.put,Array.size_setIfInBounds] <;> exact h.size
 ·cases d <;> simp [Act.put,h.defers]
 ·obtain ⟨R,e1,_,e3,e4,e5,e6,_⟩:=st.le.2 k R' (h.low k hk) e
  obtain ⟨R0,g1,g2,g3,g4,g5⟩:=h.kept k hk R e1
  exact ⟨R0,g1,g2.trans e3,g3.trans e4,g4.trans e5,e6.trans g5⟩
theorem Qcc.refl (hh:HR cx w A rs) (hf:Fr cx w0 w) (hi:∀ r R,rs r=some R→D r) (hD:∀ r,D r→D' r):Qcc cx w0 D D' A rs w A rs w :=
 ⟨hh,Qgn.refl _ _ _,fun _ _ h=>h,hf,fun r R h=>hD r (hi r R h),Nat.le_refl _,fun _ _ _=>rfl,fun r R ρ b h k => .inr ⟨r,R,ρ,h,k⟩⟩
theorem SR.tr (h:SR cx w0 N D A tm rs a w):TR D A rs w tm a:=h.tmps
theorem Qau (h:SR cx w0 N D A tm rs a w) (hD:∀ r,D r→D' r) (hd:∀ x,o.dst=some x→x<N) {av:AV} (hs:∃ v,QaA P a o w v∧VR D A rs w av v) {next:Act→World→Prop} {Q:Exit→Act→World→Prop}
 (hn:∀ A' v w',SR cx w0 N D' A' (QeN tm o.dst av) rs (a.put o.dst v) w'→Qcc cx w0 D D' A rs w A' rs w'→next (a.put o.dst v) w'):o.wp P a w next Q:=by
 obtain ⟨v,h1,h2⟩:=hs
 unfold Oper.wp
 rw [h1]
 have st:=Qcc.refl (D':=D') h.heap h.fr h.ids hD
 exact hn A v w (h.step st hD hd (h2.mono hD st.le st.big st.still)) st
theorem Qbu (h:SR cx w0 N D A tm rs a w) (hD:∀ r,D r→D' r) (hd:∀ x,o.dst=some x→x<N) {av:AV} {rs':Rs} (hs:∃ v w' A',Qa8 P a o w v w'∧Qcc cx w0 D D' A rs w A' rs' w'∧VR D' A' rs' w' av v)
 {next:Act→World→Prop} {Q:Exit→Act→World→Prop} (hn:∀ A' v w',SR cx w0 N D' A' (QeN tm o.dst av) rs' (a.put o.dst v) w'→Qcc cx w0 D D' A rs w A' rs' w'→next (a.put o.dst v) w'):o.wp P a w next Q:=by
 obtain ⟨v,w',A',h1,h2,h3⟩:=hs
 unfold Oper.wp
 rw [h1]
 exact hn A' v w' (h.step h2 hD hd h3) h2
theorem QaK {α:Type} {a:Array α} {l:List α} (h:a.toList=l):a=l.toArray:=by rw [←h]
theorem QhC.of {t t2 e sz by':Nat} {d:TypeDesc} (ht:P.underlying t=some (.slice e)) (ht2:P.underlying t2=some d) (hd:QqS d=true)
 (hi:((P.info? e).any fun i=>i.size == sz && i.bytes == by' && (i.zero.any fun z=>z.cells.size == sz && z.cells.toList.all (·.oneCell')) && decide (0<sz) && decide (0<by'))=true):∃ z,QhC P t t2 e sz by' z:=by
 cases hinfo:P.info? e with
 | none=>simp [hinfo] at hi
 | some i =>
  simp only [hinfo,Option.any_some,Bool.and_eq_true,beq_iff_eq,decide_eq_true_eq] at hi
  obtain ⟨⟨⟨⟨h1,h2⟩,h3⟩,h4⟩,h5⟩:=hi
  cases hz:i.zero with
  | none=>simp [hz] at h3
  | some z =>
   simp only [hz,Option.any_some,Bool.and_eq_true,beq_iff_eq,List.all_eq_true] at h3
   exact ⟨z,ht,⟨d,ht2,fun k e=>by subst e;cases hd⟩,⟨i,hinfo,hz,h1,h2⟩,h3.1,h4,h5,h3.2⟩
theorem Qlu (h:SR cx w0 N D A tm rs a w) {call:QaM} (hctr:∀ f ds out,call f ds=some out→QbM P f=true∧Ctr P f ds out) (hD:∀ r,D r→D' r) (hd:∀ x,o.dst=some x→x<N) {f fresh:Nat} {ms:List Bool} {vs:List AV} {vals:List Value}
 (hv:Pw (VR D A rs w) vs vals) {av:AV} {rs':Rs} (hc:QeL call fresh rs f ms vs=some (av,rs')) (hfree:∀ j,j<16→¬D (fresh+j)) (hD':∀ j,j<16→D' (fresh+j))
 (hrun:QbM P f=true→(execOp a.eval o).run P w = .ok (.enter f vals.toArray) w) {next:Act→World→Prop} {Q:Exit→Act→World→Prop}
 (hn:∀ A' v w',SR cx w0 N D' A' (QeN tm o.dst av) rs' (a.put o.dst v) w'→Qcc cx w0 D D' A rs w A' rs' w'→Qyc A rs w A' rs' w'→next (a.put o.dst v) w'):o.wp P a w next Q:=by
 have hfo:QbM P f=true:=by
  simp only [QeL,Option.bind_eq_some_iff] at hc
  obtain ⟨⟨ds,us⟩,_,hc⟩:=hc
  split at hc
  ·simp only [Option.bind_eq_some_iff] at hc
   obtain ⟨⟨res,back⟩,hcall,_⟩:=hc
   exact (hctr f ds _ hcall).1
  ·cases hc
 unfold Oper.wp
 rw [hrun hfo]
 simp only [Oper.upon]
 refine (QpX (fun f ds out hc=>(hctr f ds out hc).2) h.heap h.fr h.ids hv hc hfree hD hD').mono fun e w' ⟨v,A',he,st,hvr,hkeep⟩ => ?_
 subst he
 exact hn A' v w' (h.step st hD hd hvr) st hkeep
theorem QdG {f:Nat} (h:QbM P f=true) (args:Array Value) (w:World):(callFunc f args).run P w = .ok (.enter f args) w:=by
 unfold QbM at h
 split at h
 ·rename_i fn e
  simp only [Bool.and_eq_true,bne_iff_ne,ne_eq] at h
  obtain ⟨h1,h2⟩:=h
  have h1':fn.body.isNone=false:=by cases e2:fn.body <;> simp_all
  simp only [callFunc,Sem.run_bind,run_program,Result.andThen_ok,e,h1',beq_iff_eq,h2,Bool.false_eq_true,if_false,Sem.run_pure]
 ·cases h
end
end Go.Proofs.YtallpjhkmcgpoaaGreat.V
end
section
namespace Go.Proofs.YtallpjhkmcgpoaaGreat.V
open Go
section
variable {P:Program} {D:Nat→Prop} {cx:Cx} {w0:World}
theorem QiU {α:Type} {xs:Array α} {b:Nat} {f:α→α} (h:∀ x,xs[b]? = some x→f x=x):xs.modify b f=xs:=by
 apply Array.ext (by simp)
 intro i h3 h4
 rw [Array.getElem_modify]
 split
 ·rename_i e;subst e;exact h _ (Array.getElem?_eq_getElem h4)
 ·rfl
theorem QfJ {w:World} {b:Nat} {ro:Bool} {cur:Array Value} (h:Blk w b ro cur):w.setRow b cur=w:=by
 obtain ⟨e,fr,h1,_⟩:=h
 unfold World.setRow
 rw [QiU fun x hx=>by rw [h1] at hx;injection hx with hx;subst hx;rfl]
theorem QkM {l v1 v2:List Value} {a:Nat} (h:a+v1.length+v2.length≤l.length) :
 (l.take a++v1++l.drop (a+v1.length)).take (a+v1.length)++v2++(l.take a++v1++l.drop (a+v1.length)).drop (a+v1.length+v2.length)=l.take a++(v1++v2)++l.drop (a+(v1++v2).length):=by
 have h1:(l.take a++v1).length=a+v1.length:=by rw [List.length_append,List.length_take];omega
 rw [List.take_append_of_le_length (by omega),List.take_of_length_le (by omega),List.drop_append,List.drop_of_length_le (by omega),h1,List.nil_append,List.drop_drop,List.length_append]
 simp only [List.append_assoc]
 rw [show a+v1.length+(a+v1.length+v2.length-(a+v1.length))=a+(v1.length+v2.length) by omega]
theorem Ql6 {off:Nat} {el:List AV} {news xs:Els} (h:off<xs.length):QdF (off+1) news (xs.set off el)=QdF off (el::news) xs:=by
 unfold QdF
 have e1:(xs.set off el).take (off+1)=xs.take off++[el]:=by
  rw [List.take_succ_eq_append_getElem (by simpa using h),List.take_set_of_le (Nat.le_refl _),List.getElem_set_self]
 have e2:(xs.set off el).drop (off+1+news.length)=xs.drop (off+1+news.length):=by
  rw [List.drop_set_of_lt (by omega)]
 rw [e1,e2,List.length_cons,show off+(news.length+1)=off+1+news.length by omega]
 simp
theorem Qly {r s b oo:Nat} : ∀ (news:Els) (off:Nat) (vals:List Value) {A:Nat→Gh} {rs:Rs} {w:World} {R:Qaj} {cur:Array Value}, HR cx w A rs→Fr cx w0 w→(∀ r R,rs r=some R→D r) →
 rs r=some R→R.own=true→R.sz=s→A r []=some (b,oo)→Blk w b false cur→off+news.length≤R.xs.length→(∀ (i:Nat) el,news[i]? = some el→el.length=s)→Q8 news=false→vals.length=news.length * s →
 (∀ i c cell,QW news i c=some cell→∃ v,vals[i * s+c]? = some v∧QaR w (fun _=>none) cell v)→(∀ v∈vals,v.oneCell'=true)→oo+(off+news.length) * s≤cur.size →
 ∃ A',Qcc cx w0 D D A rs w A' (up' rs r (some { R with xs:=QdF off news R.xs })) (w.setRow b (cur.toList.take (oo+off * s)++vals++cur.toList.drop (oo+off * s+vals.length)).toArray):=by
 intro news
 induction news with
 | nil =>
  intro off vals A rs w R cur hh hf hi hr ho hs hA hb hle hlen hnd hv hcell hone hfit
  have:vals=[]:=List.eq_nil_of_length_eq_zero (by simpa using hv)
  subst this
  have e1:(cur.toList.take (oo+off * s)++[]++cur.toList.drop (oo+off * s+([]:List Value).length)).toArray=cur:=by simp
  have e2:QdF off [] R.xs=R.xs:=by simp [QdF]
  have e3:up' rs r (some { R with xs:=R.xs })=rs:=by
   funext x
   by_cases e:x=r
   ·subst e;rw [Q6,hr]
   ·rw [Qaz _ _ e]
  have e4:w.setRow b cur=w:=QfJ hb
  rw [e1,e2,e3,e4]
  exact ⟨A,Qcc.refl hh hf hi (fun _ h=>h)⟩
 | cons el news ih =>
  intro off vals A rs w R cur hh hf hi hr ho hs hA hb hle hlen hnd hv hcell hone hfit
  rw [List.length_cons] at hle hv hfit
  have hel:el.length=s:=hlen 0 el rfl
  have hoff:off<R.xs.length:=by omega
  have hnd1:Qa7 el=false∧Q8 news=false:=by simpa [Q8] using hnd
  have hvs:s+news.length * s=vals.length:=by rw [hv,Nat.add_mul,Nat.one_mul,Nat.add_comm]
  have hl1:(vals.take s).length=s:=by rw [List.length_take];omega
  have hl2:(vals.drop s).length=news.length * s:=by rw [List.length_drop];omega
  have har:QaB R.sz (!R.own) R.xs []=some (s,false,R.xs):=by simp [QaB,ho,hs]
  have htop:=(hh.tree r R hr).top
  have hxs:(R.xs[off]).length=s:=by rw [←hs];exact htop.1 off _ (List.getElem?_eq_getElem hoff)
  have hdet:Qzi cx w A rs (fun _ _=>none) el (vals.take s) (List.replicate s []):=by
   refine ⟨by rw [hl1,hel],fun j av hj => ?_⟩
   have hjs:j<s:=by rw [←hel];exact (List.getElem?_eq_some_iff.1 hj).1
   obtain ⟨v,g1,g2⟩:=hcell 0 j av (by simp [QW,hj])
   rw [Nat.zero_mul,Nat.zero_add] at g1
   refine ⟨v,[],by rw [List.getElem?_take_of_lt hjs];exact g1,by simp [hjs],Det.plain g2 (hone v (List.mem_of_getElem? g1)) fun p bo sz ys e => ?_⟩
   subst e
   exact absurd hj (Qd0 hnd1.1)
  have hfl:(List.replicate s ([]:List Nat)).flatten=[]:=by simp
  obtain ⟨A1,st1⟩:=Qg5 (D:=D) (D':=D) (i:=off) (c:=0) hh hf hi hr har hA hb (List.getElem?_eq_getElem hoff) hdet (by rw [hel,hxs];omega) (by rw [hfl];simp) (by rw [hfl];simp) (by
   have:(off+1) * s≤(off+(news.length+1)) * s:=Nat.mul_le_mul_right _ (by omega)
   rw [Nat.add_mul] at this
   omega) (fun _ h=>h)
  have q1:kill rs (List.replicate s ([]:List Nat)).flatten=rs:=by rw [hfl];funext x;simp [kill]
  have q2:(QbK R.xs [] fun ys=>QaY ys off 0 el)=R.xs.set off el:=by
   simp only [QbK,QaY,List.getElem?_eq_getElem hoff,List.take_zero,List.nil_append,Nat.zero_add]
   rw [List.drop_of_length_le (by omega),List.append_nil]
  rw [q1,q2,hnd1.1,Nat.add_zero] at st1
  simp only [Bool.false_eq_true,if_false] at st1
  generalize hc1:(cur.toList.take (oo+off * s)++vals.take s++cur.toList.drop (oo+off * s+(vals.take s).length)).toArray=cur1 at st1
  have ct:cur.toList.length=cur.size:=Array.length_toList
  have hb0:oo+off * s+(vals.take s).length+(vals.drop s).length≤cur.toList.length:=by
   rw [hl1,hl2,ct]
   rw [Nat.add_mul,Nat.add_mul,Nat.one_mul] at hfit
   omega
  have hsz1:cur1.size=cur.size:=by
   rw [←hc1];simp only [List.size_toArray]
   rw [Qb9 (by omega),ct]
  obtain ⟨_,hb1⟩:=QeT (w:=w) (cur':=cur1) hb hsz1 (fun h=>by rw [←hc1];exact h.splice fun v hv=>hone v (List.mem_of_mem_take hv))
  have hA1:A1 r []=some (b,oo):=by
   obtain ⟨R0,g1,_,_,_,_,g2,_⟩:=st1.le.2 r _ (hi r R hr) (Q6 _ _ _)
   rw [g2,hA]
  obtain ⟨A2,st2⟩:=ih (off+1) (vals.drop s) st1.heap st1.fr st1.ids (Q6 _ _ _) ho hs hA1 hb1 (by simp;omega) (fun i e he=>hlen (i+1) e (by simpa using he)) hnd1.2 hl2
   (fun i c cell hcl=>by
    obtain ⟨v,g1,g2⟩:=hcell (i+1) c cell (by simpa [QW] using hcl)
    refine ⟨v, ?_, ?_⟩
    ·rw [List.getElem?_drop, ←g1];congr 1;rw [Nat.add_mul,Nat.one_mul];omega
    ·exact g2.mono st1.big)
   (fun v hv=>hone v (List.mem_of_mem_drop hv)) (by rw [hsz1];rw [show off+1+news.length=off+(news.length+1) by omega];exact hfit)
  refine ⟨A2, ?_⟩
  have st:=st1.trans st2 (fun _ h=>h)
  rw [setRow_setRow] at st
  have r1:up' (up' rs r (some { R with xs:=R.xs.set off el })) r (some { R with xs:=QdF (off+1) news (R.xs.set off el) })=up' rs r (some { R with xs:=QdF off (el::news) R.xs }):=by
   rw [Ql6 hoff]
   funext x
   by_cases e:x=r
   ·subst e;rw [Q6,Q6]
   ·rw [Qaz _ _ e,Qaz _ _ e,Qaz _ _ e]
  have r2:(cur1.toList.take (oo+(off+1) * s)++vals.drop s++cur1.toList.drop (oo+(off+1) * s+(vals.drop s).length))=cur.toList.take (oo+off * s)++vals++cur.toList.drop (oo+off * s+vals.length):=by
   have h2:=QkM (l:=cur.toList) (v1:=vals.take s) (v2:=vals.drop s) (a:=oo+off * s) hb0
   rw [List.take_append_drop] at h2
   rw [←h2, ←hc1,show oo+(off+1) * s=oo+off * s+(vals.take s).length by rw [hl1,Nat.add_mul,Nat.one_mul];omega]
  rw [r2] at st
  rw [←r1]
  exact st
theorem QlY {rs:Rs} {r:Nat} {R:Qaj} (hr:rs r=some R):up' rs r (some R)=rs:=by
 funext x
 by_cases e:x=r
 ·subst e;rw [Q6,hr]
 ·rw [Qaz _ _ e]
variable {A:Nat→Gh} {rs:Rs} {w:World} {tm:Tm} {a:Act} {o:Oper}
theorem QsE (h:TR D A rs w tm a) (hh:HR cx w A rs) (hf:Fr cx w0 w) (hi:∀ r R,rs r=some R→D r) {t e:Nat} {cl:Call} {x:Operand} {x':X} (ho:o.op = .call cl) (hcl:cl.callee = .builtin .clear) (hca:cl.args = #[x]) (hct:cl.argTypes = #[t])
 (hx:xOk x x'=true) (ht:P.underlying t=some (.slice e)) {zero:List AV} (hz:QdD P e zero=true) (hpos:0<zero.length) {r pv off len:Nat} (ex:x'.ev tm = .slc r [] pv zero.length off len) {R:Qaj} (hr:rs r=some R) (hown:R.own=true) (hnd:Q8 (List.replicate len zero)=false) :
 ∃ v w' A',Qa8 P a o w v w'∧Qcc cx w0 D D A rs w A' (up' rs r (some { R with xs:=QdF off (List.replicate len zero) R.xs })) w'∧VR D A' (up' rs r (some { R with xs:=QdF off (List.replicate len zero) R.xs })) w' .undef v:=by
 have run:∀ {v w'}, (Builtin.clear_ #[t] o.type #[a.eval x]).run P w = .ok v w'→Qa8 P a o w v w':=fun hr=>by
  simp only [Qa8,execOp,ho,resolve,hcl,hca,hct,invoke,builtin,Sem.run_bind,Sem.run_pure,Result.andThen_ok,List.map_toArray,List.map_cons,List.map_nil,hr]
 have hv:=h.ev hx
 rw [ex] at hv
 obtain ⟨hD,ad,cap,h3,h4,h5,h6⟩:=hv.slc
 obtain ⟨e0,h8,h9⟩:=(h6 R hr).2 R.sz (!R.own) R.xs rfl
 rcases Nat.eq_zero_or_pos len with h0|h0
 ·subst h0
  have e2:QdF off (List.replicate 0 zero) R.xs=R.xs:=by simp [QdF]
  rw [e2,QlY hr]
  refine ⟨.tuple #[],w,A,run ?_,Qcc.refl hh hf hi (fun _ h=>h),by simp only [VR,V1,PR]⟩
  rw [h3]
  cases ad <;> simp [Builtin.clear_,QV ht]
 ·rcases h9 with ⟨h9,_⟩|⟨b,oo,hA,had,hbig,hle⟩
  ·omega
  subst had
  have htop:=(hh.tree r R hr).top.2
  rw [hA] at htop
  obtain ⟨cur,hb,hcells⟩:=htop
  rw [hown] at hb
  obtain ⟨i,z,g1,g2,g3,g4,g5⟩:=Qdd hz
  have hF:=Qep (cx:=cx) (w:=w) (A:=A) (rs:=rs) g4 len hpos
  have hzs:z.cells.size=zero.length:=by have:=(Qde g4).1;simpa using this.symm
  have hcz:Builtin.zeroCells z.cells len=(Array.range (len * zero.length)).map (z.cells[· % z.cells.size]!):=by unfold Builtin.zeroCells;rw [hzs]
  rw [←hcz] at hF
  have hF1:=hF.size
  have hlr:(List.replicate len zero).length=len:=List.length_replicate
  have hvl:(Builtin.zeroCells z.cells len).toList.length=(List.replicate len zero).length * zero.length:=by rw [Array.length_toList];exact hF1
  have hone:∀ v∈(Builtin.zeroCells z.cells len).toList,v.oneCell'=true:=QjH hF.size hF.len fun i c cell hc=>let ⟨v,k1,k2⟩:=hF.cell i c cell hc;⟨v,k1,k2.one⟩
  have hcur:oo+(off+cap) * zero.length≤cur.size:=by
   obtain ⟨c2,ty2,fr2,k1,k2,_⟩:=hbig
   obtain ⟨ty,fr,k3,_⟩:=hb
   rw [k3] at k1;injection k1 with k1;injection k1 with k1;subst k1
   exact k2
  have hfit:oo+(off+(List.replicate len zero).length) * zero.length≤cur.size:=by
   rw [hlr]
   have:(off+len) * zero.length≤(off+cap) * zero.length:=Nat.mul_le_mul_right _ (by omega)
   omega
  obtain ⟨A',st⟩:=Qly (D:=D) (List.replicate len zero) off (Builtin.zeroCells z.cells len).toList hh hf hi hr hown e0 hA (by simpa using hb) (by rw [hlr];exact h8) hF.len hnd hvl
   (fun i c cell hc=>by
    obtain ⟨v,k1,k2⟩:=hF.cell i c cell hc
    exact ⟨v,by rw [Array.getElem?_toList];exact k1,k2.cell⟩) hone hfit
  refine ⟨.tuple #[],_,A',run ?_,st,by simp only [VR,V1,PR]⟩
  obtain ⟨ty,fr,k3,k4⟩:=hb
  have k5:=(k4 rfl).1
  subst k5
  have hst:=run_storeCells_at P b (oo+off * zero.length) ty (Builtin.zeroCells z.cells len).toList 0 cur w k3 (by
   rw [hvl,hlr];rw [hlr,Nat.add_mul] at hfit;omega) hone
  simp only [Nat.add_zero] at hst
  rw [h3]
  obtain ⟨n,rfl⟩:∃ n,len=n+1:=⟨len-1,by omega⟩
  simp [Builtin.clear_,QV ht,(g5 _).1,hst]
theorem QoZ {r:Nat} {q:QaO} {pv sz off len n:Nat} {ad:Option Addr} {cap:Nat} (h:PR D A rs w (.slc r q pv sz off len) (.slice ad len cap)) (hn:n≤len):PR D A rs w (.slc r q pv sz off n) (.slice ad n cap):=by
 obtain ⟨hD,a',c',e,h1,h2,h3⟩:=h
 injection e with e1 e2 e3;subst e1;subst e3
 exact ⟨hD,_,_,rfl,by omega,h2,fun R hR=>⟨(h3 R hR).1,fun s ro ys ha=>by
  obtain ⟨k1,k2,k3⟩:=(h3 R hR).2 s ro ys ha
  exact ⟨k1,by omega,k3⟩⟩⟩
theorem QfO {xs:Els} (h:Q8 xs=false) {i c:Nat} {p bo:Bool} {s:Nat} {ys:Els} : QW xs i c≠some (.deep p bo s ys):=fun e=>by
 obtain ⟨el,h1,h2⟩:=Qas e
 have h3:Qa7 el=false:=by
  simp only [Q8,List.any_eq_false] at h
  simpa using h el (List.mem_of_getElem? h1)
 exact Qd0 h3 h2
theorem Qjs (h:TR D A rs w tm a) (hh:HR cx w A rs) (hf:Fr cx w0 w) (hi:∀ r R,rs r=some R→D r) {t t2 e sz:Nat} {cl:Call} {x y:Operand} {x' y':X} (ho:o.op = .call cl) (hcl:cl.callee = .builtin .copy) (hca:cl.args = #[x,y]) (hct:cl.argTypes = #[t,t2])
 (hx:xOk x x'=true) (hy:xOk y y'=true) (ht:P.underlying t=some (.slice e)) (hsz:Qen P e sz=true) {r pv off len r2 pv2 off2 len2:Nat} {q2:QaO} (ex:x'.ev tm = .slc r [] pv sz off len) (ey:y'.ev tm = .slc r2 q2 pv2 sz off2 len2)
 {R R2:Qaj} (hr:rs r=some R) (hown:R.own=true) {s2:Nat} {ro2:Bool} {ys:Els} (hl:QcV rs r2 q2 pv2=some (R2,s2,ro2,ys)) (hnd:Q8 (wnd ys off2 (min len2 len))=false) :
 ∃ v w' A',Qa8 P a o w v w'∧Qcc cx w0 D D A rs w A' (up' rs r (some { R with xs:=QdF off (wnd ys off2 (min len2 len)) R.xs })) w'∧VR D A' (up' rs r (some { R with xs:=QdF off (wnd ys off2 (min len2 len)) R.xs })) w' (.i .i64 (min len2 len:Nat)) v:=by
 have run:∀ {v w'}, (Builtin.copy_ #[t,t2] o.type #[a.eval x,a.eval y]).run P w = .ok v w'→Qa8 P a o w v w':=fun hr=>by
  simp only [Qa8,execOp,ho,resolve,hcl,hca,hct,invoke,builtin,Sem.run_bind,Sem.run_pure,Result.andThen_ok,List.map_toArray,List.map_cons,List.map_nil,hr]
 have hv:=h.ev hx
 rw [ex] at hv
 obtain ⟨hD,ad,cap,h3,h4,h5,h6⟩:=hv.slc
 obtain ⟨e0,h8,h9⟩:=(h6 R hr).2 R.sz (!R.own) R.xs rfl
 have hv2:=h.ev hy
 rw [ey] at hv2
 have hp2:PR D A rs w (.slc r2 q2 pv2 sz off2 len2) (a.eval y):=by simpa only [VR,V1] using hv2
 obtain ⟨ad2,cap2,k3⟩:∃ ad2 cap2,a.eval y = .slice ad2 len2 cap2:=by obtain ⟨_,ad2,cap2,k3,_⟩:=hp2;exact ⟨ad2,cap2,k3⟩
 rw [k3] at hp2
 generalize hn:min len2 len=n at *
 obtain ⟨rfl,k4,hr2,ha2,vals,ad3,cap3,k5,k6,k7,k8,k9,k10,_⟩:=Qer (P:=P) hh (QoZ hp2 (n:=n) (by omega)) hl
 injection k5 with k5 _ k5';subst k5;subst k5'
 have hfc:(Builtin.firstCells s2 n (.slice ad2 len2 cap2)).run P w = .ok vals.toArray w:=by
  have:=k10 w rfl
  cases ad2 <;> exact this
 have hwl:(wnd ys off2 n).length=n:=QaS k4
 have hcellw:∀ i c cell,QW (wnd ys off2 n) i c=some cell→∃ v,vals[i * s2+c]? = some v∧QaR w (fun _=>none) cell v:=fun i c cell hc=>by
  have hlt:i<n:=by
   obtain ⟨el,g1,_⟩:=Qas hc
   have:=(List.getElem?_eq_some_iff.1 g1).1
   omega
  have hc2:QW ys (off2+i) c=some cell:=(Qbp k4 hc).2
  obtain ⟨v,g1,g2⟩:=k9 i c cell hlt hc2
  refine ⟨v,g1, ?_⟩
  cases cell with
  | deep p bo s zs=>exact absurd hc (QfO hnd)
  | _=>exact g2
 have hmin:Nat.min len2 len=n:=hn
 rcases Nat.eq_zero_or_pos n with h0|h0
 ·subst h0
  have e2:QdF off (wnd ys off2 0) R.xs=R.xs:=by simp [QdF,wnd]
  have e3:vals=[]:=List.eq_nil_of_length_eq_zero (by simpa using k7)
  subst e3
  rw [e2,QlY hr]
  refine ⟨.int .i64 0,w,A,run ?_,Qcc.refl hh hf hi (fun _ h=>h),by simp only [VR,V1,PR];rfl⟩
  rw [h3,k3]
  cases ad <;> simp [Builtin.copy_,QV ht,Builtin.lenOf,hmin,Qa9 hsz,hfc,goInt,storeCells]
 ·rcases h9 with ⟨h9,_⟩|⟨b,oo,hA,had,hbig,hle⟩
  ·omega
  subst had
  have htop:=(hh.tree r R hr).top.2
  rw [hA] at htop
  obtain ⟨cur,hb,hcells⟩:=htop
  rw [hown] at hb
  have hcur:oo+(off+cap) * s2≤cur.size:=by
   obtain ⟨c2,ty2,fr2,k1,k2,_⟩:=hbig
   obtain ⟨ty,fr,k3,_⟩:=hb
   rw [k3] at k1;injection k1 with k1;injection k1 with k1;subst k1
   exact k2
  have hfit:oo+(off+(wnd ys off2 n).length) * s2≤cur.size:=by
   rw [hwl]
   have:(off+n) * s2≤(off+cap) * s2:=Nat.mul_le_mul_right _ (by omega)
   omega
  have hlens:∀ (i:Nat) el,(wnd ys off2 n)[i]? = some el→el.length=s2:=fun i el he=>by
   rw [Qgp k4] at he
   split at he
   ·exact (hh.arr hr2 ha2).top.1 _ _ he
   ·cases he
  obtain ⟨A',st⟩:=Qly (D:=D) (wnd ys off2 n) off vals hh hf hi hr hown e0 hA (by simpa using hb) (by rw [hwl];omega) hlens hnd (by rw [hwl];exact k7) hcellw k8 hfit
  refine ⟨.int .i64 (n:Nat),_,A',run ?_,st,by simp only [VR,V1,PR]⟩
  obtain ⟨ty,fr,g3,g4⟩:=hb
  have g5:=(g4 rfl).1
  subst g5
  have hst:=run_storeCells_at P b (oo+off * s2) ty vals 0 cur w g3 (by
   rw [k7];rw [hwl,Nat.add_mul] at hfit;omega) k8
  simp only [Nat.add_zero] at hst
  rw [h3,k3]
  simp [Builtin.copy_,QV ht,Builtin.lenOf,hmin,Qa9 hsz,hfc,goInt,hst]
end
end Go.Proofs.YtallpjhkmcgpoaaGreat.V
end
section
namespace Go.Proofs.YtallpjhkmcgpoaaGreat.V
open Go
section
variable {P:Program} {D D':Nat→Prop} {cx:Cx} {w0:World} {A:Nat→Gh} {rs:Rs} {w:World} {tm:Tm} {a:Act} {o:Oper}
theorem TR.tok (h:TR D A rs w tm a) {k:X} (hk:isT k=true):∃ v,VR D A rs w (k.ev tm) v:=by
 cases k with
 | t c=>exact ⟨_,h c⟩
 | k v=>cases hk
theorem Qge {xs ys:Els} (h1:Q8 xs=false) (h2:Q8 ys=false):Q8 (xs++ys)=false:=by
 simp only [Q8,List.any_append,Bool.or_eq_false_iff];exact ⟨h1,h2⟩
theorem Qfs.flat {sz:Nat} {zs:Els} {vals:List Value} (hs:vals.length=zs.length * sz) (hl:∀ (i:Nat) el,zs[i]? = some el→el.length=sz) (hd:Q8 zs=false)
 (hc:∀ i c cell,QW zs i c=some cell→∃ B v,vals[i * sz+c]? = some v∧QaR w B cell v) (ho:∀ v∈vals,v.oneCell'=true):Qfs cx w A rs sz zs vals [] (fun _ _ _=>none) (fun _=>none) :=
 ⟨hs,hl,fun i c cell h=>by
  obtain ⟨B,v,h1,h2⟩:=hc i c cell h
  refine ⟨v,h1, ?_⟩
  cases cell with
  | deep p bo s ys=>exact absurd h (QfO hd)
  | _=>exact h2,ho,fun i c p bo s ys h=>absurd h (QfO hd),fun i c p bo s ys ρ b h=>absurd h (QfO hd),fun i c p bo s ys ρ b h=>absurd h (QfO hd),fun i i' r q k q' k' h=>by cases h⟩
theorem Qkw {r off sz pv len cap capT:Nat} {ad:Option Addr} (h2:∀ R,rs r=some R→R.sz=sz∧∃ b o,A r []=some (b,o)∧Big w b (o+(off+capT) * sz,R.own)) (h:PR D A rs w (.slc r [] pv sz off len) (.slice ad len cap)) {R:Qaj} (hr:rs r=some R) (hown:R.own=true) (hsz:0<sz) (hoff:off<R.xs.length):capT=cap:=by
 obtain ⟨hs,b,oo,h3,h4⟩:=h2 R hr
 obtain ⟨_,ad',cap',e,_,_,h5⟩:=h
 injection e with e1 e2 e3;subst e3
 obtain ⟨_,_,h7⟩:=(h5 R hr).2 R.sz (!R.own) R.xs rfl
 rcases h7 with ⟨_,h7⟩|⟨b',oo',h8,_,h10,_⟩
 ·omega
 ·rw [h3] at h8;injection h8 with h8;injection h8 with h8 h9;subst h8;subst h9
  rw [hown] at h4 h10
  have h11:=Big.same h4 h10
  have h12:(off+capT) * sz=(off+cap) * sz:=by omega
  have h13:=Nat.eq_of_mul_eq_mul_right hsz h12
  omega
theorem Qfs.of_flat {sz:Nat} {xs:Els} {cur:Array Value} {G al} (hF:Qt1 cx w A rs sz xs cur [] G al):Qfs cx w A rs sz xs cur.toList [] G (fun _=>none):=by
 have no:∀ {i c r}, ¬r∈al i c:=fun h=>by have:=hF.mem _ _ _ h;cases this
 refine ⟨by rw [Array.length_toList];exact hF.size,hF.len,fun i c cell hc => ?_,fun v hv => ?_,fun i c p bo s ys hc => ?_,fun i c p bo s ys ρ b hc hk => ?_,fun i c p bo s ys ρ b hc hk => ?_,fun i i' r q k q' k' h=>by cases h⟩
 ·obtain ⟨v,h1,h2⟩:=hF.cell i c cell hc
  exact ⟨v,by rw [Array.getElem?_toList];exact h1,h2.cell⟩
 ·exact QjH hF.size hF.len (fun i c cell h=>let ⟨v,h1,h2⟩:=hF.cell i c cell h;⟨v,h1,h2.one⟩) v hv
 ·obtain ⟨v,_,h2⟩:=hF.cell i c _ hc
  exact h2.tree p bo s ys rfl
 ·obtain ⟨v,_,h2⟩:=hF.cell i c _ hc
  obtain ⟨r,R,h3,_⟩:=h2.own p bo s ys rfl ρ b hk
  exact absurd (by rw [h3];simp) (no (i:=i) (c:=c) (r:=r))
 ·obtain ⟨v,_,h2⟩:=hF.cell i c _ hc
  exact h2.sta p bo s ys rfl ρ b hk
structure ZTy (P:Program) (t t2 e by':Nat) (z:Value) (zero:List AV):Prop where
 ht:P.underlying t=some (.slice e)
 ht2:∃ k,P.underlying t2=some (.int k)
 hz:∃ i,P.info? e=some i∧i.zero=some z∧i.size=zero.length∧i.bytes=by'
 zc:Qeq zero z.cells.toList=true
 pos:0<zero.length
 by0:0<by'
theorem ZTy.of {t t2 e by':Nat} {zero:List AV} {k:IntKind} (ht:P.underlying t=some (.slice e)) (ht2:P.underlying t2=some (.int k)) (hz:QdD P e zero=true) (hp:0<zero.length) (hb:((P.info? e).any fun i=>i.bytes == by' && decide (0<by'))=true):∃ z,ZTy P t t2 e by' z zero:=by
 obtain ⟨i,z,h1,h2,h3,h4,_⟩:=Qdd hz
 rw [h1] at hb
 simp only [Option.any_some,Bool.and_eq_true,beq_iff_eq,decide_eq_true_eq] at hb
 exact ⟨z,ht,⟨k,ht2⟩,⟨i,h1,h2,h3,hb.1⟩,h4,hp,hb.2⟩
theorem QoV {t t2 e by' ty:Nat} {z:Value} {zero:List AV} (T:ZTy P t t2 e by' z zero) {ad:Option Addr} {n0 cap n:Nat} {olds:List Value}
 (hfo:∀ w1:World,w1.heap=w.heap→(Builtin.firstCells zero.length n0 (.slice ad n0 cap)).run P w1 = .ok olds.toArray w1) (hpos:0<n) (hgrow:cap<n0+n) (hbytes:(n0+n) * by'≤140737488355328) :
 ∃ cap',n0+n≤cap'∧(Builtin.append_ #[t,t2] ty #[.slice ad n0 cap, .int .i64 (n:Nat)]).run P w =
  .ok (.slice (some ⟨w.heap.size,0,none⟩) (n0+n) cap') { w with drawn:=w.drawn+1,heap:=w.heap.push (.cells (olds.toArray++Builtin.zeroCells z.cells n++Builtin.zeroCells z.cells (cap'-(n0+n))) e) } := by
 obtain ⟨i,h1,h2,h3,h4⟩:=T.hz
 obtain ⟨d,h5⟩:=T.ht2
 have hsm:n0+n≤140737488355328:=Nat.le_trans (Nat.le_mul_of_pos_right _ T.by0) hbytes
 have hn:n≤140737488355328:=by omega
 have hnb:n * by'≤140737488355328:=Nat.le_trans (Nat.mul_le_mul_right _ (by omega)) hbytes
 have h63:¬(((n0+n:Nat):Int) > IntKind.i64.max):=Int.not_lt.2 (Int.le_trans (Int.ofNat_le.2 hsm) (by decide))
 have hfit:=growslice_fits hgrow hbytes
 have h48:¬(2 ^ 48<Builtin.nextslicecap (n0+n) cap * by'):=by
  have:(2:Nat) ^ 48=281474976710656:=rfl
  rw [this];omega
 have hneg:¬((n:Int)<0):=by omega
 have hbig:¬((2:Int) ^ 48<(n:Int) * (by':Int)):=by
  have:((n * by':Nat):Int)=(n:Int) * (by':Int):=Int.natCast_mul _ _
  rw [←this]
  have:(2:Int) ^ 48=281474976710656:=rfl
  rw [this];omega
 have hnz:¬(n * zero.length=0):=by have:=Nat.mul_pos hpos T.pos;omega
 refine ⟨grownCap w (n0+n) cap e,grownCap_ge w _ _ _, ?_⟩
 simp only [Builtin.append_,List.getElem?_toArray,List.getElem?_cons_zero,List.getElem?_cons_succ,Sem.run_bind,QV T.ht,Result.andThen_ok,sizeOf,Qbf h1,Sem.run_pure,QV h5,h3,h4,if_true,asInt,asIntOf,Qlt hn,Sem.run_ite,
  if_neg hneg,gt_iff_lt,if_neg hbig,Int.toNat_natCast,if_neg (Nat.not_le.2 hgrow),Bool.not_true,Bool.false_eq_true,if_false,hnz,h63,false_and,h48,run_choose,Question.forced,run_askRoom,zeroValue,h2,newRow,run_newObj,grownCap]
 rw [hfo { w with drawn:=w.drawn+1 } rfl]
 simp only [Result.andThen_ok,Sem.run_pure]
def QBT (rs:Rs) (sz m:Nat) (k x:AV) (pre:Els):Prop :=
 ((∃ s,x = .nl s)∧pre=[])∨∃ r off n pv len R,k = .cv 3 r off sz n∧x = .slc r [] pv sz off len∧rs r=some R∧R.own=true∧pre=wnd R.xs off len∧off+len≤R.xs.length∧Q8 pre=false∧n≤len+m∧off<R.xs.length
theorem Qjt (h:TR D A rs w tm a) (hh:HR cx w A rs) (hf:Fr cx w0 w) (hi:∀ r R,rs r=some R→D r) {t t2 e by':Nat} {z:Value} {zero:List AV} (T:ZTy P t t2 e by' z zero) {cl:Call} {x y:Operand} {k' x' y':X}
 (ho:o.op = .call cl) (hcl:cl.callee = .builtin .append) (hca:cl.args = #[x,y]) (hct:cl.argTypes = #[t,t2]) (hk:QAa k'=true) (hx:xOk x x'=true) (hy:xOk y y'=true) {m:Int} (ey:y'.ev tm = .i .i64 m) (hm:0<m)
 {pre:Els} (hp:QBT rs zero.length m.toNat (k'.ev tm) (x'.ev tm) pre) (hbytes:(pre.length+m.toNat) * by'≤140737488355328) {id:Nat} (hid:¬D id) (hD:∀ r,D r→D' r) (hid':D' id) :
 ∃ v w' A',Qa8 P a o w v w'∧Qcc cx w0 D D' A rs w A' (up' rs id (some ⟨true,zero.length,0,pre++List.replicate m.toNat zero⟩)) w'∧VR D' A' (up' rs id (some ⟨true,zero.length,0,pre++List.replicate m.toNat zero⟩)) w' (.slc id [] 0 zero.length 0 (pre.length+m.toNat)) v:=by
 have hvy:=h.ev hy
 rw [ey] at hvy
 have hvy:=hvy.int
 obtain ⟨n,rfl⟩:∃ n:Nat,m=n:=⟨m.toNat,by omega⟩
 rw [Int.toNat_natCast] at hp hbytes ⊢
 have hn:0<n:=by omega
 have run:∀ {v w'}, (Builtin.append_ #[t,t2] o.type #[a.eval x,a.eval y]).run P w = .ok v w'→Qa8 P a o w v w':=fun hr=>by
  simp only [Qa8,execOp,ho,resolve,hcl,hca,hct,invoke,builtin,Sem.run_bind,Sem.run_pure,Result.andThen_ok,List.map_toArray,List.map_cons,List.map_nil,hr]
 rw [hvy] at run
 have hpre:∃ ad cap vals0,a.eval x = .slice ad pre.length cap∧cap<pre.length+n∧Qfs cx w A rs zero.length pre vals0 [] (fun _ _ _=>none) (fun _=>none) ∧
  ∀ w1:World,w1.heap=w.heap→(Builtin.firstCells zero.length pre.length (.slice ad pre.length cap)).run P w1 = .ok vals0.toArray w1:=by
  rcases hp with ⟨⟨s,ex⟩,rfl⟩|⟨r,off,n1,pv,len,R,ek,ex,hr,hown,rfl,_,hd,hnl,hoff⟩
  ·have hv:=h.ev hx
   rw [ex] at hv
   exact ⟨none,0,[],hv.nl,by simpa using hn,Qfs.nil,fun w1 _=>run_firstCells_none (P:=P) w1 _ _ _ _⟩
  ·have hkT:isT k'=true:=by
    cases k' with
    | t c=>rfl
    | k v=>simp only [X.ev] at ek;subst ek;cases hk
   obtain ⟨u,hu⟩:=h.tok hkT
   rw [ek] at hu
   have hu':PR D A rs w (.cv 3 r off zero.length n1) u:=by simpa only [VR,V1] using hu
   have hv:=h.ev hx
   rw [ex] at hv
   have hl:QcV rs r [] pv=some (R,R.sz,false,R.xs):=by simp [QcV,hr,Qaj.arr,hown]
   obtain ⟨e0,h6,_,ha,vals0,ad,cap,hav,h7,h8,h9,h10,h11,h12⟩:=Qer (P:=P) hh hv.slc hl
   have hp:PR D A rs w (.slc r [] pv zero.length off len) (.slice ad len cap):=by rw [←hav];exact hv.slc
   obtain ⟨_,capT,⟨_,hlt⟩,hu2⟩:=hu'
   obtain rfl:=Qkw hu2 hp hr hown T.pos hoff
   have ht:=hh.arr hr ha
   have hpl:(wnd R.xs off len).length=len:=QaS h6
   rw [hpl]
   refine ⟨ad,capT,vals0,hav,by omega,Qfs.flat (by rw [hpl];exact h8) (fun i el he => ?_) hd (fun i c cell hc => ?_) h9,fun w1 hw1=>by rw [←hav];exact h11 w1 hw1⟩
   ·rw [Qgp h6] at he
    split at he
    ·rw [←e0];exact ht.top.1 _ _ he
    ·cases he
   ·obtain ⟨hi,hc2⟩:=Qbp h6 hc
    obtain ⟨v,g1,g2⟩:=h10 i c cell hi hc2
    exact ⟨_,v,g1,g2⟩
 obtain ⟨ad,cap,vals0,hav,hgrow,hE0,hfo⟩:=hpre
 have hzs:z.cells.size=zero.length:=by have:=(Qde T.zc).1;simpa using this.symm
 have hF:=Qep (cx:=cx) (w:=w) (A:=A) (rs:=rs) T.zc n T.pos
 have hcz:∀ n,Builtin.zeroCells z.cells n=(Array.range (n * zero.length)).map (z.cells[· % z.cells.size]!):=fun n=>by unfold Builtin.zeroCells;rw [hzs]
 rw [←hcz] at hF
 have hE:=hE0.append (Qfs.of_flat hF) (fun i j r q k q' k' _ h=>by cases h)
 have zone:One z.cells:=by
  have h1:=QjH (cur:=z.cells) (xs:=[zero]) (sz:=zero.length) (by simp [hzs]) (fun i el he=>by
   cases i with
   | zero=>simp only [List.getElem?_cons_zero,Option.some.injEq] at he;subst he;rfl
   | succ i=>simp at he) (fun i c cell hc=>by
   obtain ⟨rfl,h2⟩:=Qe6 hc
   obtain ⟨v,h3,h4⟩:=(Qde T.zc).2 c cell h2
   exact ⟨v,by simpa using h3,(QfC (cx:=cx) (w:=w) (A:=A) (rs:=rs) h4).one⟩)
  exact h1
 obtain ⟨cap',hc',hrun⟩:=QoV (P:=P) (w:=w) (ty:=o.type) (ad:=ad) (olds:=vals0) T hfo hn hgrow hbytes
 rw [←hav] at hrun
 have hzt:(Builtin.zeroCells z.cells n).toList.toArray=Builtin.zeroCells z.cells n:=by simp
 have hst:=QeD (D':=D') (id:=id) (oo:=0) hh hf hi (Qhl (e:=e) (vals0.toArray++Builtin.zeroCells z.cells n++Builtin.zeroCells z.cells (cap'-(pre.length+n)))) hE hid hD hid' (b:=w.heap.size) ⟨e,(0,0),Qct w _,fun _=>⟨rfl,by rw [←hzt];exact Qhc hE0.one (Qfs.of_flat hF).one zone⟩⟩ (fun j u hj => ?_) (fun x hx=>hx.elim) (.inl ⟨hf.base,Nat.le_refl _,fun x h=>h⟩)
 ·have ek:kill rs ([]++[])=rs:=by funext x;simp [kill]
  rw [ek] at hst
  refine ⟨_,_,_,run hrun,hst,(QfP hid' (Q6 _ _ _) (by rw [Q6];rfl) rfl ?_ ?_ (Big.of (Qct w _) ?_)).vr⟩
  ·simp only [List.length_append,List.length_replicate];omega
  ·simp only [List.length_append,List.length_replicate];exact hc'
  ·have:=hE0.size
   simp only [Array.size_append,List.size_toArray,size_zeroCells,hzs,this,Nat.zero_add]
   rw [←Nat.add_mul, ←Nat.add_mul]
   congr 1;omega
 ·rw [Nat.zero_add]
  have hj':=(List.getElem?_eq_some_iff.1 hj).1
  rw [←Array.getElem?_toList]
  simp only [Array.toList_append]
  rw [List.getElem?_append_left (by simpa using hj')];simpa using hj
theorem QtR {sz:Nat} {ro:Bool} {xs zs:Els} (hz:∀ i c p bo s ys,QW zs i c≠some (.deep p bo s ys)):∀ {ρ:QaO} {x:Nat×Nat} {y}, QaB sz ro (xs++zs) (x::ρ)=some y→QaB sz ro xs (x::ρ)=some y:=by
 intro ρ x y h
 obtain ⟨i,c⟩:=x
 obtain ⟨p,bo,s,ys,h1,h2⟩:=QaZ h
 rw [QbP] at h1
 split at h1
 ·simp only [QaB,h1];exact h2
 ·exact absurd h1 (hz _ _ _ _ _ _)
theorem Qss (h:TR D A rs w tm a) (hh:HR cx w A rs) (hf:Fr cx w0 w) (hi:∀ r R,rs r=some R→D r) {t e sz:Nat} {x y:Operand} {k' x' y':X} (ho:o.op = .slice t x none (some y) none) (hk:isT k'=true) (hx:xOk x x'=true) (hy:xOk y y'=true)
 (ht:P.underlying t=some (.slice e)) (hs:Qen P e sz=true) (hsz:0<sz) {r off n pv len:Nat} {ki:IntKind} {m:Int} (ek:k'.ev tm = .cv 2 r off sz n) (ex:x'.ev tm = .slc r [] pv sz off len) (ey:y'.ev tm = .i ki m) (hlen:0<len) (hm0:0≤m) (hmn:m≤n)
 {R:Qaj} (hr:rs r=some R) (hown:R.own=true) {id:Nat} (hid:¬D id) (hD:∀ r,D r→D' r) (hid':D' id) :
 ∃ v w' A',Qa8 P a o w v w'∧Qcc cx w0 D D' A rs w A' (up' (kill rs [r]) id (some ⟨true,sz,0,R.xs++List.replicate (off+m.toNat-R.xs.length) (List.replicate sz .undef)⟩)) w' ∧
  VR D' A' (up' (kill rs [r]) id (some ⟨true,sz,0,R.xs++List.replicate (off+m.toNat-R.xs.length) (List.replicate sz .undef)⟩)) w' (.slc id [] 0 sz off m.toNat) v:=by
 obtain ⟨u,hu⟩:=h.tok hk
 rw [ek] at hu
 have hu':PR D A rs w (.cv 2 r off sz n) u:=by simpa only [VR,V1] using hu
 have h1:=h.ev hx
 rw [ex] at h1
 obtain ⟨hDr,ad,cap,h3,h4,h5,h6⟩:=h1.slc
 obtain ⟨e0,h8,h9⟩:=(h6 R hr).2 R.sz (!R.own) R.xs rfl
 have hp:PR D A rs w (.slc r [] pv sz off len) (.slice ad len cap):=by rw [←h3];exact h1.slc
 obtain ⟨_,capT,⟨_,hle⟩,hu2⟩:=hu'
 obtain rfl:=Qkw hu2 hp hr hown hsz (by omega)
 rcases h9 with ⟨_,h9⟩|⟨b,oo,hA,had,hbig,hxs⟩
 ·omega
 have hmc:m.toNat≤capT:=by omega
 generalize hmm:m.toNat=mm at *
 have hu1:bnd tm (max len mm) (some y') len=some mm:=by
  simp only [bnd,ey];rw [if_pos ⟨hm0,by omega⟩,hmm]
 have hl1:bnd tm mm none 0=some 0:=rfl
 have htop:max len mm≤capT:=by omega
 obtain ⟨h2,hlu,hul⟩:=Qdg (P:=P) (isS:=true) h (lo:=none) (hi:=some y) rfl (by simpa [Qfo] using hy) htop (Nat.le_max_left _ _) hu1 hl1 (Qfz htop)
 simp only [Option.map_none,Option.map_some] at h2
 generalize hz:List.replicate (off+mm-R.xs.length) (List.replicate sz AV.undef)=zs
 have hzl:zs.length=off+mm-R.xs.length:=by rw [←hz,List.length_replicate]
 have hzc:∀ i c cell,QW zs i c=some cell→cell = .undef∧i<zs.length∧c<sz:=fun i c cell hc=>by
  obtain ⟨el,g1,g2⟩:=Qas hc
  have hi:=(List.getElem?_eq_some_iff.1 g1).1
  rw [←hz] at g1
  rw [List.getElem?_replicate] at g1
  split at g1
  ·injection g1 with g1;subst g1
   rw [List.getElem?_replicate] at g2
   split at g2
   ·injection g2 with g2;exact ⟨g2.symm,hi,by assumption⟩
   ·cases g2
  ·cases g1
 have hzd:∀ i c p bo s ys,QW zs i c≠some (.deep p bo s ys):=fun i c p bo s ys hc=>by cases (hzc i c _ hc).1
 have htree:=hh.tree r R hr
 rw [hown] at htree
 have htop2:=htree.top
 have hcur:=htop2.2
 rw [hA] at hcur
 obtain ⟨cur,hb,hcells⟩:=hcur
 have hcsz:oo+(off+capT) * R.sz≤cur.size:=by
  obtain ⟨c2,ty2,fr2,k1,k2,_⟩:=hbig
  obtain ⟨ty,fr,k3,_⟩:=hb
  rw [k3] at k1;injection k1 with k1;injection k1 with k1;subst k1
  rw [e0];exact k2
 have hkey:∀ {f ρ b'}, Qaj.Key ⟨true,sz,0,R.xs++zs⟩ (A r) f ρ b'→R.Key (A r) f ρ b':=fun {f ρ b'} ⟨s,ys,o',g1,g2⟩=>by
  cases ρ with
  | nil =>
   simp only [QaB,Option.some.injEq,Prod.mk.injEq] at g1
   exact ⟨R.sz,R.xs,o',by simp only [QaB,hown,g1.2.1],g2⟩
  | cons y ρ=>exact ⟨s,ys,o',by rw [hown,e0];exact QtR hzd g1,g2⟩
 have hst:=Qhe (D':=D') (R0:=⟨true,sz,0,R.xs++zs⟩) (B:=A r) (asx:=[r]) (M:=fun _=>False) hh hf hi (Chg.refl _ w) (fun b h=>h.elim) hid hD hid' ?_ (fun ρ b' k => .inr ⟨r,by simp,R,ρ,hr,hkey k⟩)
  (fun ρ ρ' b' k k'=>(hh.inj r R ρ r R ρ' b' hr (hkey k) hr (hkey k')).2) (fun ρ b' k=>hh.sta r R ρ b' hr (hkey k))
 ·refine ⟨.slice ad mm capT,w,_, ?_,hst, ?_⟩
  ·by_cases c:capT=0
   ·omega
   ·simp only [Qa8,execOp,ho,h3,Instr.sliceAt,Instr.slice,Sem.run_bind,QV ht,Result.andThen_ok,Option.map_none,Option.map_some,h2,Sem.run_pure,Qa9 hs]
    subst had
    simp [c,QcR]
  ·simp only [VR,V1,PR]
   refine ⟨hid',_,_,rfl,hmc,h5,fun R' hR'=>⟨fun e=>absurd rfl e,fun s ro ys ha => ?_⟩⟩
   rw [Q6] at hR';injection hR' with hR';subst hR'
   simp only [Qaj.arr,Option.some.injEq,Prod.mk.injEq] at ha
   obtain ⟨rfl,rfl,rfl⟩:=ha
   refine ⟨rfl,by rw [List.length_append,hzl];omega, .inr ⟨b,oo,by rw [Q6];exact hA,had, ?_,by rw [List.length_append,hzl];omega⟩⟩
   rw [hown] at hbig;exact hbig
 ·refine Qbg.mk' ⟨fun i el he => ?_, ?_⟩ fun i c p bo s ys hc => ?_
  ·by_cases hi:i<R.xs.length
   ·rw [List.getElem?_append_left hi] at he;rw [←e0];exact htop2.1 i el he
   ·rw [List.getElem?_append_right (by omega), ←hz,List.getElem?_replicate] at he
    split at he
    ·injection he with he;subst he;exact List.length_replicate
    ·cases he
  ·rw [hA]
   refine ⟨cur,hb,fun i c cell hc => ?_⟩
   simp only at hc ⊢
   rw [QbP] at hc
   split at hc
   ·rw [←e0];exact hcells i c cell hc
   ·rename_i hi
    obtain ⟨rfl,g1,g2⟩:=hzc _ _ _ hc
    have h10:(i+1) * sz≤(off+capT) * sz:=Nat.mul_le_mul_right _ (by omega)
    rw [e0] at hcsz
    rw [Nat.add_mul,Nat.one_mul] at h10
    have hlt:oo+i * sz+c<cur.size:=by omega
    obtain ⟨ty,fr,_,k4⟩:=hb
    exact ⟨cur[oo+i * sz+c],Array.getElem?_eq_getElem hlt,(k4 rfl).2 _ (Array.getElem_mem_toList hlt),trivial⟩
  ·simp only at hc ⊢
   rw [QbP] at hc
   split at hc
   ·exact htree.sub hc
   ·exact absurd hc (hzd _ _ _ _ _ _)
theorem Qs6:Extern.allGenericRows.lookup "slices.overlaps" = none:=by kernel_rfl
theorem Qph:Extern.allTypedRows.lookup "slices.overlaps" = some Extern.SlicesOverlaps.overlaps:=by kernel_rfl
theorem Qo8 {fn:Func} (h1:QsZ fn.name=true) (h2:fn.origin = "slices.overlaps"):Extern.find fn=some (Extern.SlicesOverlaps.overlaps fn.params fn.resultTypes):=by
 simp only [QsZ,Bool.and_eq_true,Option.isNone_iff_eq_none] at h1
 simp only [Extern.find,h1.1.1,h1.1.2,h1.2,h2,Qs6,Qph,Option.map_none,Option.map_some,HOrElse.hOrElse,OrElse.orElse,Option.orElse]
def QBM (o:Option TypeId) (a b:Option Addr) (la lb:Nat):Sem Value:=do
 let some t:=o|stuck "slices.overlaps: no parameter types"
 let .slice elem ←underlying t|stuck "slices.overlaps: slice type expected"
 let size ←sizeOf elem
 match a,b with
 | some a,some b =>
  if la=0∨lb=0∨size=0 then pure (Value.bool false)
  else if a.block != b.block && (←frozen a) && (←frozen b) then unsupported .addressObserved
  else do
   if a.block != b.block then do
    noView a;noView b
    if ←mayBeOne a b then return Value.bool ((←choose (.extern "sameAddr.stringBytes" 2)) == 1)
   pure (Value.bool (a.block == b.block && a.off<b.off+lb * size && b.off<a.off+la * size))
 | _,_=>pure (Value.bool false)
theorem Qvx (ps rs:Array TypeId) (a b:Option Addr) (la ca lb cb:Nat):Extern.SlicesOverlaps.overlaps ps rs #[.slice a la ca, .slice b lb cb]=QBM ps[0]? a b la lb:=rfl
theorem Qsy (h:TR D A rs w tm a) (hh:HR cx w A rs) {sz:Nat} {cl:Call} {x y:Operand} {x' y':X} {f:Nat} {fn:Func} (ho:o.op = .call cl) (hcl:cl.callee = .value (.func f)) (hca:cl.args = #[x,y]) (hfn:P.funcs[f]? = some fn) (hok:QsV P fn sz=true)
 (hx:xOk x x'=true) (hy:xOk y y'=true) {r r2 pv pv2 off off2 len len2:Nat} (ex:x'.ev tm = .slc r [] pv sz off len) (ey:y'.ev tm = .slc r2 [] pv2 sz off2 len2) (hne:r≠r2) (hl:0<len) (hl2:0<len2) {R R2:Qaj} (hr:rs r=some R) (hr2:rs r2=some R2) (hown:R.own=true) :
 ∃ v,QaA P a o w v∧VR D A rs w (.b false) v:=by
 simp only [QsV,Bool.and_eq_true,Bool.not_eq_true',beq_iff_eq,Option.isNone_iff_eq_none,Option.any_eq_true,decide_eq_true_eq] at hok
 obtain ⟨⟨⟨⟨⟨⟨h1,h2⟩,h3⟩,h4⟩,h5⟩,hsz⟩,t,ht0,ht⟩:=hok
 split at ht
 ·rename_i e hu
  have top:∀ {z:Operand} {z':X} {r pv off len:Nat} {R:Qaj}, xOk z z'=true→z'.ev tm = .slc r [] pv sz off len→rs r=some R→0<len→∃ b oo cap cur,a.eval z = .slice (some ⟨b,oo,none⟩) len cap∧Blk w b (!R.own) cur∧cur.size≠0∧R.Key (A r) (!R.own) [] b:=fun {z z' r pv off len R} hz ez hr hl=>by
   have hv:=h.ev hz
   rw [ez] at hv
   obtain ⟨_,ad,cap,g1,g2,g3,g4⟩:=hv.slc
   obtain ⟨k1,k2,k3⟩:=(g4 R hr).2 R.sz (!R.own) R.xs rfl
   rcases k3 with ⟨k3,_⟩|⟨b,oo,k4,k5,k6,k7⟩
   ·omega
   ·have h6:=(hh.tree r R hr).top.2
    rw [k4] at h6
    obtain ⟨cur,hb,_⟩:=h6
    refine ⟨b,_,cap,cur,by rw [g1,k5],hb,fun h0 => ?_,R.sz,R.xs,oo,rfl,k4⟩
    obtain ⟨c2,ty2,fr2,q1,q2,_⟩:=k6
    obtain ⟨ty,fr,q3,_⟩:=hb
    rw [q3] at q1;injection q1 with q1;injection q1 with q1;subst q1
    have:0<(off+cap) * sz:=Nat.mul_pos (by omega) hsz
    omega
  obtain ⟨b,oo,cap,cur,v1,v2,v3,v4⟩:=top hx ex hr hl
  obtain ⟨b2,oo2,cap2,cur2,w1,w2,w3,w4⟩:=top hy ey hr2 hl2
  have hbb:b≠b2:=by
   intro e1
   subst e1
   rw [hown] at v4
   cases ho2:R2.own with
   | true =>
    rw [ho2] at w4
    exact hne (hh.inj r R _ r2 R2 _ b hr v4 hr2 w4).1
   | false =>
    rw [ho2] at w4
    have q1:=cx.ok b (hh.sta r2 R2 _ b hr2 w4)
    rcases hh.own r R _ b hr v4 with q2|q2
    ·omega
    ·exact q1.2 q2
  refine ⟨.bool false, ?_,by simp only [VR,V1,PR]⟩
  obtain ⟨ty,fr,s1,s2⟩:=v2
  obtain ⟨ty2,fr2,s3,_⟩:=w2
  obtain ⟨s4,_⟩:=s2 (by rw [hown];rfl)
  subst s4
  have hsame:∀ a b,Extern.SlicesOverlaps.overlaps fn.params fn.resultTypes #[.slice a len cap, .slice b len2 cap2]=Extern.SlicesOverlaps.overlaps #[t,t] #[t] #[.slice a len cap, .slice b len2 cap2]:=fun a b=>by
   rw [Qvx,Qvx,ht0];rfl
  have hrun:=Lib.run_overlaps_apart (P:=P) w t t e hu sz (Qa9 ht) ⟨b,oo,none⟩ ⟨b2,oo2,none⟩ len cap len2 cap2 hbb ty ty2 cur.size cur2.size (by simp [World.shape?, s1]) (by simp [World.shape?, s3]) w3 (by simp [World.frozen?, s1]) (by simp [World.frozen?, s1])
  simp only [QaA,execOp,ho,resolve,hcl,hca,Sem.run_bind,Sem.run_pure,Result.andThen_ok,Act.eval,Deferred.ofValue,invoke,Array.append_empty,Array.empty_append,List.map_toArray,List.map_cons,List.map_nil]
  simp only [Act.eval] at v1 w1
  rw [run_callFunc_extern hfn h2 (by rw [h1];rfl) h3 (Qo8 h4 h5),v1,w1,hsame,hrun]
  rfl
 ·cases ht
theorem Qm6 (hh:HR cx w A rs) (hf:Fr cx w0 w) (hi:∀ r R,rs r=some R→D r) (asx:List Nat):Qcc cx w0 D D A rs w A (kill rs asx) w :=
 ⟨⟨fun r R h=>hh.tree r R (Qbn h).2,fun r R ρ b h k=>hh.own r R ρ b (Qbn h).2 k,fun r R ρ b h k=>hh.sta r R ρ b (Qbn h).2 k,fun r R ρ r' R' ρ' b h k h' k'=>hh.inj r R ρ r' R' ρ' b (Qbn h).2 k (Qbn h').2 k'⟩,
  Qgn.kill fun r R h=>(Qbn h).2,fun _ _ h=>h,hf,fun r R h=>hi r R (Qbn h).2,Nat.le_refl _,fun _ _ _=>rfl,fun r R ρ b h k => .inr ⟨r,R,ρ,(Qbn h).2,k⟩⟩
end
end Go.Proofs.YtallpjhkmcgpoaaGreat.V
end
section
namespace Go.Proofs.YtallpjhkmcgpoaaGreat.V
open Go
section
variable {P:Program} {D D':Nat→Prop} {A:Nat→Gh} {rs:Rs} {w:World} {cx:Cx} {w0:World} {N:Nat} {tm:Tm} {a:Act} {o:Oper}
theorem Qg4 (h:SR cx w0 N D A tm rs a w) {call:QaM} (hctr:∀ f ds out,call f ds=some out→QbM P f=true∧Ctr P f ds out) {fresh:Nat} {i:I} {av:AV} {rs':Rs} (he:evI call fresh tm rs i=some (av,rs')) (ho:Qdc P o i=true) (hic:i.isCall=true)
 (hd:∀ x,o.dst=some x→x<N) (hfree:∀ j,j<16→¬D (fresh+j)) (hD:∀ r,D r→D' r) (hD':∀ j,j<16→D' (fresh+j)) {next:Act→World→Prop} {Q:Exit→Act→World→Prop}
 (hn:∀ A' v w',SR cx w0 N D' A' (QeN tm o.dst av) rs' (a.put o.dst v) w'→Qcc cx w0 D D' A rs w A' rs' w'→Qyc A rs w A' rs' w'→next (a.put o.dst v) w'):o.wp P a w next Q:=by
 cases i <;> simp only [I.isCall,Bool.false_eq_true] at hic
 case call f ms args =>
  simp only [Qdc] at ho
  split at ho
  ·rename_i c e
   split at ho
   ·rename_i f' hc
    simp only [Bool.and_eq_true,beq_iff_eq] at ho
    obtain ⟨rfl,h1⟩:=ho
    simp only [evI] at he
    have hpw:=h.tr.evs h1
    refine Qlu h hctr hD hd hpw he hfree hD' (fun hfo => ?_) hn
    have hargs:(c.args.toList.map a.eval).toArray=c.args.map a.eval:=by rw [←Array.toList_map]
    simp only [execOp,e,resolve,hc,Sem.run_bind,Sem.run_pure,Result.andThen_ok,Act.eval,Deferred.ofValue,invoke,Array.append_empty,Array.empty_append,QdG hfo,hargs]
   ·cases ho
  ·cases ho
 case callv g ms args =>
  simp only [Qdc] at ho
  split at ho
  ·rename_i c e
   split at ho
   ·rename_i g' hc
    simp only [Bool.and_eq_true] at ho
    obtain ⟨h1,h2⟩:=ho
    simp only [evI] at he
    split at he
    ·rename_i f caps eg
     have hg:=h.tr.ev h1
     rw [eg] at hg
     obtain ⟨caps',hgv,hcaps⟩:=hg.fn
     have hpw:=(h.tr.evs h2).app (hcaps.mono fun _ _ h=>h.vr)
     refine Qlu h hctr hD hd hpw he hfree hD' (fun hfo => ?_) hn
     have hargs:(c.args.toList.map a.eval++caps'.toList).toArray=c.args.map a.eval++caps':=by rw [←Array.toList_map, ←Array.toList_append]
     simp only [execOp,e,resolve,hc,Sem.run_bind,Sem.run_pure,Result.andThen_ok,hgv,Deferred.ofValue,invoke,Array.append_empty,Array.empty_append,QdG hfo,hargs]
    ·cases he
   ·cases ho
  ·cases ho
theorem QuV (h:SR cx w0 N D A tm rs a w) {call:QaM} (hctr:∀ f ds out,call f ds=some out→QbM P f=true∧Ctr P f ds out) {fresh:Nat} {i:I} {av:AV} {rs':Rs} (he:evI call fresh tm rs i=some (av,rs')) (ho:Qdc P o i=true)
 (hd:∀ x,o.dst=some x→x<N) (hfree:∀ j,j<16→¬D (fresh+j)) (hD:∀ r,D r→D' r) (hD':∀ j,j<16→D' (fresh+j)) {next:Act→World→Prop} {Q:Exit→Act→World→Prop}
 (hn:∀ A' v w',SR cx w0 N D' A' (QeN tm o.dst av) rs' (a.put o.dst v) w'→Qcc cx w0 D D' A rs w A' rs' w'→next (a.put o.dst v) w'):o.wp P a w next Q:=by
 have hf0:¬D fresh:=by have:=hfree 0 (by omega);simpa using this
 have hf0':D' fresh:=by have:=hD' 0 (by omega);simpa using this
 cases i with
 | mv x =>
  simp only [evI,Option.some.injEq,Prod.mk.injEq] at he
  obtain ⟨rfl,rfl⟩:=he
  simp only [Qdc] at ho
  split at ho <;> first
   | (rename_i e;exact Qau h hD hd (Qjr h.tr (.inl e) ho) hn)
   | (rename_i e;exact Qau h hD hd (Qjr h.tr (.inr e) ho) hn)
   | cases ho
 | pick c x y =>
  simp only [evI] at he
  split at he
  ·rename_i t et
   injection he with he;injection he with e1 e2;subst e1;subst e2
   simp only [Qdc] at ho
   split at ho
   ·rename_i e
    simp only [Bool.and_eq_true] at ho
    exact Qau h hD hd (QoN h.tr e ho.1.1 ho.1.2 ho.2 et) hn
   ·cases ho
  ·cases he
 | nilc x =>
  simp only [Qdc] at ho
  split at ho
  ·rename_i e
   simp only [evI] at he
   split at he
   ·rename_i et
    injection he with he;injection he with e1 e2;subst e1;subst e2
    exact Qau h hD hd (QhO h.tr e ho et) hn
   ·rename_i et
    injection he with he;injection he with e1 e2;subst e1;subst e2
    exact Qau h hD hd (QiK h.tr e ho et) hn
   ·rename_i et
    injection he with he;injection he with e1 e2;subst e1;subst e2
    exact Qau h hD hd (QiL h.tr e ho et) hn
   ·cases he
  ·cases ho
 | bin op kd x y =>
  simp only [Qdc] at ho
  split at ho
  ·rename_i e
   simp only [Bool.and_eq_true,decide_eq_true_eq] at ho
   obtain ⟨⟨⟨rfl,h1⟩,h2⟩,h3⟩:=ho
   simp only [evI] at he
   split at he
   ·rename_i hk
    simp only [Option.map_eq_some_iff] at he
    obtain ⟨r,e1,e2⟩:=he
    injection e2 with e2 e3;subst e2;subst e3
    exact Qau h hD hd (QsH h.tr e h1 h2 h3 hk e1) hn
   ·cases he
  ·cases ho
 | eqA neg ks x y =>
  simp only [Qdc] at ho
  split at ho
  ·rename_i e
   simp only [Bool.and_eq_true,decide_eq_true_eq] at ho
   obtain ⟨⟨⟨rfl,h1⟩,h2⟩,h3⟩:=ho
   simp only [evI] at he
   split at he
   ·rename_i ex ey
    simp only [Option.map_eq_some_iff] at he
    obtain ⟨r,e1,e2⟩:=he
    injection e2 with e2 e3;subst e2;subst e3
    exact Qau h hD hd (QsD h.tr e h1 h2 h3 ex ey e1) hn
   ·cases he
  ·cases ho
 | un op x =>
  simp only [Qdc] at ho
  split at ho
  ·rename_i e
   simp only [Bool.and_eq_true,decide_eq_true_eq] at ho
   obtain ⟨rfl,h1⟩:=ho
   simp only [evI,Option.map_eq_some_iff] at he
   obtain ⟨r,e1,e2⟩:=he
   injection e2 with e2 e3;subst e2;subst e3
   exact Qau h hD hd (QuU h.tr e h1 e1) hn
  ·cases ho
 | build zero parts =>
  simp only [Qdc] at ho
  split at ho
  ·rename_i e
   split at ho
   ·rename_i ht hz
    simp only [Bool.and_eq_true] at ho
    simp only [evI,Option.map_eq_some_iff] at he
    obtain ⟨r,e1,e2⟩:=he
    injection e2 with e2 e3;subst e2;subst e3
    exact Qau h hD hd (QlS h.tr e ht ho.1.1 hz ho.1.2 ho.2 e1) hn
   ·cases ho
  ·cases ho
 | field off n x =>
  simp only [Qdc] at ho
  split at ho
  ·rename_i e
   split at ho
   ·rename_i ht
    split at ho
    ·rename_i hfd
     simp only [Bool.and_eq_true,beq_iff_eq] at ho
     simp only [evI] at he
     split at he
     ·rename_i ex
      simp only [Option.map_eq_some_iff] at he
      obtain ⟨r,e1,e2⟩:=he
      injection e2 with e2 e3;subst e2;subst e3
      exact Qau h hD hd (QlQ h.tr e ho.1.1 ht hfd ho.1.2 ho.2 ex e1) hn
     ·cases he
    ·cases ho
   ·cases ho
  ·cases ho
 | ext j x =>
  simp only [Qdc,Bool.or_eq_true] at ho
  rcases ho with ho|ho
  ·rw [Qv6 ho] at he;cases he
  split at ho
  ·rename_i e
   simp only [Bool.and_eq_true,beq_iff_eq] at ho
   obtain ⟨h1,rfl⟩:=ho
   simp only [evI] at he
   split at he
   ·rename_i ex
    simp only [Option.map_eq_some_iff] at he
    obtain ⟨r,e1,e2⟩:=he
    injection e2 with e2 e3;subst e2;subst e3
    exact Qau h hD hd (QsC h.tr e h1 ex e1) hn
   ·cases he
  ·cases ho
 | idxS x j =>
  simp only [Qdc] at ho
  split at ho
  ·rename_i e
   simp only [Bool.and_eq_true] at ho
   obtain ⟨⟨h1,h2⟩,h3⟩:=ho
   split at h3
   ·rename_i ht
    simp only [evI] at he
    split at he
    ·rename_i ex ey
     split at he
     ·rename_i hb
      injection he with he;injection he with e2 e3;subst e2;subst e3
      exact Qau h hD hd (QoQ h.tr e h1 h2 ht ex ey hb.1 hb.2) hn
     ·cases he
    ·cases he
   ·cases h3
  ·cases ho
 | idxA len sz n x j =>
  simp only [Qdc] at ho
  split at ho
  ·rename_i e
   split at ho
   ·rename_i ht
    simp only [Bool.and_eq_true,beq_iff_eq] at ho
    obtain ⟨⟨⟨⟨h1,h2⟩,rfl⟩,h3⟩,h4⟩:=ho
    simp only [evI] at he
    split at he
    ·rename_i ex ey
     split at he
     ·rename_i hb
      simp only [Option.map_eq_some_iff] at he
      obtain ⟨r,e1,e2⟩:=he
      injection e2 with e2 e3;subst e2;subst e3
      exact Qau h hD hd (QoR h.tr e h1 h2 ht h3 h4 ex ey hb.1 hb.2 e1) hn
     ·cases he
    ·cases he
   ·cases ho
  ·cases ho
 | slS x lo hi =>
  simp only [Qdc] at ho
  split at ho
  ·rename_i e
   simp only [Bool.and_eq_true] at ho
   obtain ⟨⟨⟨h1,h2⟩,h3⟩,h4⟩:=ho
   split at h4
   ·rename_i ht
    simp only [evI] at he
    split at he
    ·rename_i ex
     simp only [Option.bind_eq_some_iff,Option.map_eq_some_iff] at he
     obtain ⟨u,e1,l,e2,e3⟩:=he
     injection e3 with e3 e4;subst e3;subst e4
     exact Qau h hD hd (Qst h.tr e h1 h2 h3 ht ex e1 e2) hn
    ·cases he
   ·cases h4
  ·cases ho
 | slR sz x lo hi =>
  simp only [Qdc] at ho
  split at ho
  ·rename_i e
   split at ho
   ·rename_i ht
    simp only [Bool.and_eq_true] at ho
    obtain ⟨⟨⟨h1,h2⟩,h3⟩,h4⟩:=ho
    simp only [evI] at he
    split at he
    ·rename_i ex
     split at he
     ·rename_i hs
      subst hs
      simp only [Option.bind_eq_some_iff,Option.map_eq_some_iff] at he
      obtain ⟨u,e1,l,e2,e3⟩:=he
      injection e3 with e3 e4;subst e3;subst e4
      exact Qau h hD hd (Qsu h.tr e h1 h2 h3 ht h4 ex e1 e2) hn
     ·cases he
    ·rename_i ex
     simp only [Option.bind_eq_some_iff,Option.map_eq_some_iff] at he
     obtain ⟨u,e1,l,e2,e3⟩:=he
     injection e3 with e3 e4;subst e3;subst e4
     exact Qau h hD hd (Qsv h.tr e h1 h2 h3 ht h4 ex e1 e2) hn
    ·cases he
   ·cases ho
  ·cases ho
 | slC sz x lo hi =>
  simp only [Qdc] at ho
  split at ho
  ·rename_i e
   split at ho
   ·rename_i ht
    simp only [Bool.and_eq_true] at ho
    obtain ⟨⟨⟨h1,h2⟩,h3⟩,h4⟩:=ho
    simp only [evI] at he
    split at he
    ·rename_i ex
     simp only [Option.bind_eq_some_iff] at he
     obtain ⟨⟨R,s0,ro0,ys0⟩,hlk,he⟩:=he
     split at he
     ·rename_i hs
      subst hs
      simp only [Option.bind_eq_some_iff,Option.map_eq_some_iff] at he
      obtain ⟨u,e1,l,e2,e3⟩:=he
      injection e3 with e3 e4;subst e3;subst e4
      exact Qau h hD hd (Qsx h.tr e h1 h2 h3 ht h4 ex hlk e1 e2) hn
     ·cases he
    ·cases he
   ·cases ho
  ·cases ho
 | slX sz k x hi =>
  simp only [Qdc] at ho
  split at ho
  ·rename_i e
   split at ho
   ·rename_i ht
    simp only [Bool.and_eq_true,decide_eq_true_eq] at ho
    obtain ⟨⟨⟨⟨h0,h1⟩,h2⟩,h3⟩,h4⟩:=ho
    simp only [evI] at he
    split at he
    ·rename_i ek ex ey
     split at he
     ·rename_i hq
      obtain ⟨rfl,rfl,rfl,rfl,rfl,g1,g2,g3⟩:=hq
      simp only [Option.bind_eq_some_iff] at he
      obtain ⟨R,hr,he⟩:=he
      split at he
      ·rename_i hb
       injection he with he;injection he with e2 e3;subst e2;subst e3
       exact Qbu h hD hd (Qss h.tr h.heap h.fr h.ids e h0 h1 h2 ht h3 h4 ek ex ey g1 g2 g3 hr hb hf0 hD hf0') hn
      ·cases he
     ·cases he
    ·cases he
   ·cases ho
  ·cases ho
 | slM sz x lo hi mx =>
  simp only [Qdc] at ho
  split at ho
  ·rename_i e
   split at ho
   ·rename_i ht
    simp only [Bool.and_eq_true] at ho
    obtain ⟨⟨⟨⟨h1,h2⟩,h3⟩,h3'⟩,h4⟩:=ho
    simp only [evI] at he
    split at he
    ·rename_i ex
     split at he
     ·rename_i hs
      subst hs
      simp only [Option.bind_eq_some_iff,Option.map_eq_some_iff] at he
      obtain ⟨m,e0,u,e1,l,e2,e3⟩:=he
      injection e3 with e3 e4;subst e3;subst e4
      exact Qau h hD hd (Qsw h.tr e h1 h2 h3 h3' ht h4 ex e0 e1 e2) hn
     ·cases he
    ·cases he
   ·cases ho
  ·cases ho
 | len isS x =>
  simp only [Qdc] at ho
  split at ho
  ·rename_i c e
   split at ho
   ·rename_i x' t hc ha hat
    simp only [Bool.and_eq_true] at ho
    obtain ⟨h1,h2⟩:=ho
    have run:∀ {r:AV}, (match x.ev tm with | .s x=>some (AV.i .i64 x.size) | .slc _ _ _ _ _ len=>some (.i .i64 len) | .nl _=>some (.i .i64 0)|_=>none)=some r →
     (P.underlying t=some .string∧(∃ s,x.ev tm = .s s)∨(∃ e,P.underlying t=some (.slice e))∧∀ s,x.ev tm ≠ .s s)→∃ v,QaA P a o w v∧VR D A rs w r v :=
     fun g1 g2=>QsB h.tr e hc (QaK ha) (QaK hat) h1 g1 g2
    simp only [evI] at he
    split at he
    ·rename_i s ex
     split at he
     ·rename_i hs
      injection he with he;injection he with e2 e3;subst e2;subst e3
      subst hs
      refine Qau h hD hd (run (by rw [ex]) (.inl ⟨?_,s,ex⟩)) hn
      split at h2 <;> first|assumption|cases h2
     ·cases he
    ·rename_i ex
     split at he
     ·cases he
     ·rename_i hs
      injection he with he;injection he with e2 e3;subst e2;subst e3
      refine Qau h hD hd (run (by rw [ex]) (.inr ⟨?_,fun s e=>by rw [ex] at e;cases e⟩)) hn
      split at h2 <;> first|exact ⟨_,by assumption⟩|(exact absurd h2 hs)|cases h2
    ·rename_i ex
     split at he
     ·cases he
     ·rename_i hs
      injection he with he;injection he with e2 e3;subst e2;subst e3
      refine Qau h hD hd (run (by rw [ex]) (.inr ⟨?_,fun s e=>by rw [ex] at e;cases e⟩)) hn
      split at h2 <;> first|exact ⟨_,by assumption⟩|(exact absurd h2 hs)|cases h2
    ·cases he
   ·cases ho
  ·cases ho
 | cap x =>
  simp only [Qdc] at ho
  split at ho
  ·rename_i c e
   split at ho
   ·rename_i x' t hc ha hat
    simp only [Bool.and_eq_true] at ho
    obtain ⟨h1,h2⟩:=ho
    split at h2
    ·rename_i el ht
     have run:∀ {ad:Option Addr} {n m:Nat}, a.eval x' = .slice ad n m→QaA P a o w (.int .i64 m):=fun hv=>by
      simp only [QaA,execOp,e,resolve,hc,QaK ha,QaK hat,invoke,builtin,Builtin.cap_,Sem.run_bind,Sem.run_pure,Result.andThen_ok,List.map_toArray,List.map_cons,List.map_nil,hv]
      simp [QV ht,goInt]
     have hv:=h.tr.ev h1
     simp only [evI] at he
     split at he
     ·rename_i ex
      injection he with he;injection he with e2 e3;subst e2;subst e3
      rw [ex] at hv
      exact Qau h hD hd ⟨_,run hv.nl,by simp only [VR,V1,PR];rfl⟩ hn
     ·rename_i ex
      split at he
      ·rename_i hq
       obtain ⟨rfl,hq⟩:=hq
       injection he with he;injection he with e2 e3;subst e2;subst e3
       rw [ex] at hv
       obtain ⟨g0,ad,cap,g1,g2,g3,g4⟩:=hv.slc
       refine Qau h hD hd ⟨_,run g1, ?_⟩ hn
       simp only [VR,V1,PR]
       refine ⟨g0,cap,rfl,fun R hR => ?_⟩
       obtain ⟨k1,k2,k3⟩:=(g4 R hR).2 R.sz (!R.own) R.xs rfl
       refine ⟨k1, ?_⟩
       rcases k3 with ⟨k3,_⟩|⟨b,oo,k4,_,k5,_⟩
       ·omega
       ·exact ⟨b,oo,k4,by rw [Bool.not_not] at k5;exact k5⟩
      ·cases he
     ·cases he
    ·cases h2
   ·cases ho
  ·cases ho
 | conv k x =>
  simp only [Qdc] at ho
  split at ho
  ·rename_i e
   simp only [Bool.and_eq_true] at ho
   obtain ⟨⟨h1,h2⟩,h3⟩:=ho
   obtain ⟨d,h2⟩:=Option.isSome_iff_exists.1 h2
   split at h3
   ·rename_i ht
    simp only [decide_eq_true_eq] at h3
    subst h3
    simp only [evI] at he
    split at he
    ·rename_i ex
     injection he with he;injection he with e2 e3;subst e2;subst e3
     exact Qau h hD hd (QoS h.tr e h1 h2 ht ex) hn
    ·cases he
   ·cases h3
  ·cases ho
 | faddr off x =>
  simp only [Qdc] at ho
  split at ho
  ·rename_i e
   split at ho
   ·rename_i ht
    split at ho
    ·rename_i fd hfd
     simp only [Bool.and_eq_true,beq_iff_eq] at ho
     obtain ⟨⟨h1,h2⟩,h3⟩:=ho
     cases hin:P.info? fd.type with
     | none=>rw [hin] at h3;simp at h3
     | some inf =>
      rw [hin] at h3
      simp only [Option.any_some,bne_iff_ne,ne_eq] at h3
      simp only [evI] at he
      split at he
      ·rename_i ex
       injection he with he;injection he with e2 e3;subst e2;subst e3
       exact Qau h hD hd (QlR h.tr e h1 ht hfd h2 (n:=inf.size) (by simp [Qen,hin]) h3 ex) hn
      ·rename_i ex
       injection he with he;injection he with e2 e3;subst e2;subst e3
       exact Qau h hD hd (QhP h.tr e h1 ht hfd h2 (n:=inf.size) (by simp [Qen,hin]) h3 ex) hn
      ·cases he
    ·cases ho
   ·cases ho
  ·cases ho
 | iaddr sz x j =>
  simp only [Qdc] at ho
  split at ho
  ·rename_i e
   split at ho
   ·rename_i ht
    simp only [Bool.and_eq_true] at ho
    simp only [evI] at he
    split at he
    ·rename_i ex ey
     split at he
     ·rename_i hb
      obtain ⟨rfl,hb1,hb2⟩:=hb
      injection he with he;injection he with e2 e3;subst e2;subst e3
      exact Qau h hD hd (QlP h.tr e ho.1.1 ho.1.2 ht ho.2 ex ey hb1 hb2) hn
     ·cases he
    ·cases he
   ·cases ho
  ·cases ho
 | mkfn f caps =>
  simp only [Qdc] at ho
  split at ho
  ·rename_i f' first' caps' e
   simp only [Bool.and_eq_true,beq_iff_eq] at ho
   obtain ⟨⟨rfl,h2⟩,h3⟩:=ho
   have hfe:first' = #[]:=by simpa using h2
   subst hfe
   simp only [evI] at he
   split at he
   ·rename_i hb
    injection he with he;injection he with e2 e3;subst e2;subst e3
    refine Qau h hD hd (QoO h.tr e h3 fun x hx => ?_) hn
    have:=List.all_eq_true.1 hb x hx
    exact ⟨(fun cs e=>by subst e;cases this),(fun g cs e=>by subst e;cases this),(fun vs e=>by subst e;cases this),(fun cs c e=>by subst e;cases this)⟩
   ·cases he
  ·cases ho
 | mm mx xs =>
  simp only [Qdc] at ho
  split at ho
  ·rename_i c e
   split at ho
   ·rename_i b hc
    simp only [Bool.and_eq_true,decide_eq_true_eq] at ho
    obtain ⟨rfl,h2⟩:=ho
    simp only [evI] at he
    split at he
    ·cases he
    ·simp only [Option.map_eq_some_iff] at he
     obtain ⟨r,e1,e2⟩:=he
     injection e2 with e2 e3;subst e2;subst e3
     exact Qau h hD hd (QuW h.tr e hc rfl h2 e1) hn
   ·cases ho
  ·cases ho
 | bts x =>
  simp only [Qdc] at ho
  split at ho
  ·rename_i e
   split at ho
   ·rename_i hs hdd
    simp only [Bool.and_eq_true] at ho
    obtain ⟨h1,h2⟩:=ho
    split at h2
    ·rename_i hu
     simp only [evI] at he
     split at he
     ·rename_i sz ex
      injection he with he;injection he with e2 e3;subst e2;subst e3
      refine Qau h hD hd ⟨.string .empty, ?_,Qyd⟩ hn
      have:=h.tr.ev h1
      rw [ex] at this
      simp only [QaA,execOp,e,this.nl,Sem.run_bind,run_convert_bytes_nil w _ _ hs hu 0 0 _ hdd,Result.andThen_ok,Sem.run_pure]
     ·rename_i r q pv sz off len ex
      simp only [Option.bind_eq_some_iff] at he
      obtain ⟨⟨R,s1,ro,ys⟩,hl,he⟩:=he
      split at he
      ·rename_i hsz
       subst hsz
       simp only [Option.map_eq_some_iff] at he
       obtain ⟨l,e1,e2⟩:=he
       injection e2 with e2 e3;subst e2;subst e3
       exact Qau h hD hd (QsF h.tr h.heap e h1 hs hu hdd ex hl e1) hn
      ·cases he
     ·cases he
    ·cases h2
   ·cases ho
  ·cases ho
 | load n x =>
  simp only [Qdc] at ho
  split at ho
  ·rename_i e
   simp only [Bool.and_eq_true] at ho
   simp only [evI] at he
   split at he
   ·rename_i r q pv i c ex
    simp only [Option.bind_eq_some_iff] at he
    obtain ⟨⟨R,s,ro,xs⟩,hl,el,hel,he⟩:=he
    simp only [Option.map_eq_some_iff] at he
    obtain ⟨v,hval,e2⟩:=he
    injection e2 with e2 e3;subst e2;subst e3
    exact Qau h hD hd (QoP h.tr h.heap e ho.1 ho.2 ex hl hel hval) hn
   ·rename_i ex
    simp only [Option.map_eq_some_iff] at he
    obtain ⟨v,hval,e2⟩:=he
    injection e2 with e2 e3;subst e2;subst e3
    exact Qau h hD hd (QiM h.tr e ho.1 ho.2 ex hval) hn
   ·cases he
  ·cases ho
 | store n x y =>
  simp only [Qdc] at ho
  split at ho
  ·rename_i e
   simp only [Bool.and_eq_true,decide_eq_true_eq] at ho
   obtain ⟨⟨⟨h1,h2⟩,h3⟩,h4⟩:=ho
   simp only [evI] at he
   split at he
   ·rename_i r q pv i c ex
    simp only [Option.bind_eq_some_iff] at he
    obtain ⟨⟨R,s,ro,xs⟩,hl,el,hel,⟨vs,asx⟩,hs,he⟩:=he
    split at he
    ·rename_i hb
     obtain ⟨rfl,b2,b3,b4,b5⟩:=hb
     injection he with he;injection he with e2 e3;subst e2;subst e3
     obtain ⟨w',A',g1,g2⟩:=QlO (D':=D') h.tr h.heap h.fr h.ids e h1 h2 h3 h4 ex hl hel hs b2 b3 b4 b5 hD
     unfold Oper.wp
     rw [g1]
     exact hn A' undef w' (h.step g2 hD hd (by simp only [VR,V1,PR])) g2
    ·cases he
   ·cases he
  ·cases ho
 | box n x =>
  simp only [Qdc] at ho
  split at ho
  ·rename_i e
   simp only [evI,Option.bind_eq_some_iff] at he
   obtain ⟨⟨vs,asx⟩,hs,he⟩:=he
   split at he
   ·rename_i hb
    injection he with he;injection he with e2 e3;subst e2;subst e3
    exact Qbu h hD hd (QsG h.tr h.heap h.fr h.ids e ho hs hb.1 hb.2 hf0 hD hf0') hn
   ·cases he
  ·cases ho
 | boxK x =>
  simp only [Qdc] at ho
  split at ho
  ·rename_i e
   simp only [evI] at he
   split at he
   ·rename_i hb
    injection he with he;injection he with e2 e3;subst e2;subst e3
    exact Qbu h hD hd (QoT h.tr h.heap h.fr h.ids e ho hb hD) hn
   ·cases he
  ·cases ho
 | alloc zero =>
  simp only [Qdc] at ho
  split at ho
  ·rename_i e
   simp only [evI,Option.some.injEq,Prod.mk.injEq] at he
   obtain ⟨rfl,rfl⟩:=he
   exact Qbu h hD hd (QlT h.heap h.fr h.ids e ho hf0 hD hf0') hn
  ·cases ho
 | lit sz len zero parts =>
  simp only [Qdc] at ho
  split at ho
  ·rename_i e
   split at ho
   ·rename_i ht
    simp only [Bool.and_eq_true,beq_iff_eq,decide_eq_true_eq] at ho
    obtain ⟨⟨⟨⟨⟨h1,h2⟩,h3⟩,rfl⟩,h5⟩,h6⟩:=ho
    simp only [evI,Option.bind_eq_some_iff] at he
    obtain ⟨⟨xs,asx⟩,hs,he⟩:=he
    split at he
    ·rename_i hb
     injection he with he;injection he with e2 e3;subst e2;subst e3
     exact Qbu h hD hd (QsA h.tr h.heap h.fr h.ids e ht h1 h2 h3 h5 h6 hs hb hf0 hD hf0') hn
    ·cases he
   ·cases ho
  ·cases ho
 | mks sz by' zero n =>
  simp only [Qdc] at ho
  split at ho
  ·rename_i e
   split at ho
   ·rename_i ht
    simp only [Bool.and_eq_true,beq_iff_eq,decide_eq_true_eq] at ho
    obtain ⟨⟨⟨⟨⟨⟨h1,h2⟩,h3⟩,h4⟩,h5⟩,h6⟩,h7⟩:=ho
    simp only [evI] at he
    split at he
    ·rename_i ex
     split at he
     ·rename_i hb
      injection he with he;injection he with e2 e3;subst e2;subst e3
      exact Qbu h hD hd (Qsz h.tr h.heap h.fr h.ids e h1 h2 ht h3 h4 h5 h6 h7 ex hb.1 hb.2 hf0 hD hf0') hn
     ·cases he
    ·cases he
   ·cases ho
  ·cases ho
 | app sz by' x y =>
  simp only [Qdc] at ho
  split at ho
  ·rename_i c e
   split at ho
   ·rename_i x' y' t t2 hc ha hat
    split at ho
    ·rename_i ht ht2
     simp only [Bool.and_eq_true] at ho
     obtain ⟨⟨⟨h1,h2⟩,h3⟩,h4⟩:=ho
     obtain ⟨z,T⟩:=QhC.of ht ht2 h3 h4
     simp only [evI,Option.bind_eq_some_iff] at he
     obtain ⟨⟨ys,asx⟩,hs,⟨pre,post,rs1,r0⟩,hb,he⟩:=he
     split at he
     ·rename_i hcnd
      injection he with he;injection he with e2 e3;subst e2;subst e3
      exact Qbu h hD hd (QsI h.tr h.heap h.fr h.ids T e hc (QaK ha) (QaK hat) h1 h2 hs hb hcnd.1 hcnd.2.1 hf0 (hfree 1 (by omega)) hD hf0' (hD' 1 (by omega))) hn
     ·cases he
    ·cases ho
   ·cases ho
  ·cases ho
 | appZ by' zero k x y =>
  simp only [Qdc] at ho
  split at ho
  ·rename_i c e
   split at ho
   ·rename_i x' y' t t2 hc ha hat
    split at ho
    ·rename_i ht ht2
     simp only [Bool.and_eq_true,decide_eq_true_eq] at ho
     obtain ⟨⟨⟨⟨⟨h0,h1⟩,h2⟩,h3⟩,h4⟩,h5⟩:=ho
     obtain ⟨z,T⟩:=ZTy.of ht ht2 h3 h4 (by simpa using h5)
     simp only [evI] at he
     split at he
     ·rename_i ey
      split at he
      ·rename_i hm
       split at he
       ·rename_i ex
        split at he
        ·rename_i hb
         injection he with he;injection he with e2 e3;subst e2;subst e3
         have:=Qjt h.tr h.heap h.fr h.ids T e hc (QaK ha) (QaK hat) h0 h1 h2 ey hm (pre:=[]) (.inl ⟨⟨_,ex⟩,rfl⟩) (by simpa using hb) hf0 hD hf0'
         simp only [List.nil_append,List.length_nil,Nat.zero_add] at this
         exact Qbu h hD hd this hn
        ·cases he
       ·rename_i ex
        split at he
        ·rename_i ek
         split at he
         ·rename_i hq
          obtain ⟨rfl,rfl,rfl,rfl,rfl⟩:=hq
          simp only [Option.bind_eq_some_iff] at he
          obtain ⟨R,hr,he⟩:=he
          split at he
          ·rename_i hb
           obtain ⟨b1,b2,b3,b4,b5⟩:=hb
           injection he with he;injection he with e2 e3;subst e2;subst e3
           have hv:=h.tr.ev h1
           rw [ex] at hv
           obtain ⟨_,_,_,_,_,_,g5⟩:=hv.slc
           have hoff:=((g5 R hr).2 R.sz (!R.own) R.xs rfl).2.1
           have hpl:=QaS hoff
           have:=Qjt h.tr h.heap h.fr h.ids T e hc (QaK ha) (QaK hat) h0 h1 h2 ey hm (.inr ⟨_,_,_,_,_,R,ek,ex,hr,b1,rfl,hoff,b2,b3,b4⟩) (by rw [hpl];exact b5) hf0 hD hf0'
           rw [hpl] at this
           exact Qbu h hD hd this hn
          ·cases he
         ·cases he
        ·cases he
       ·cases he
      ·cases he
     ·cases he
    ·cases ho
   ·cases ho
  ·cases ho
 | ovl sz x y =>
  simp only [Qdc] at ho
  split at ho
  ·rename_i c e
   split at ho
   ·rename_i f x' y' hc ha
    simp only [Bool.and_eq_true,Option.any_eq_true] at ho
    obtain ⟨⟨h1,h2⟩,fn,hfn,hok⟩:=ho
    simp only [evI] at he
    split at he
    ·rename_i ex ey
     split at he
     ·rename_i hq
      obtain ⟨rfl,rfl,g1,rfl,rfl,g2,g3⟩:=hq
      simp only [Option.bind_eq_some_iff,Option.map_eq_some_iff] at he
      obtain ⟨u,⟨R,hr,R2,hr2,he⟩,e4⟩:=he
      split at he
      ·rename_i hb
       injection he with he;subst he
       injection e4 with e2 e3;subst e2;subst e3
       exact Qau h hD hd (Qsy h.tr h.heap e hc (QaK ha) hfn hok h1 h2 ex ey g1 g2 g3 hr hr2 hb) hn
      ·cases he
     ·cases he
    ·cases he
   ·cases ho
  ·cases ho
 | copy sz x y =>
  simp only [Qdc] at ho
  split at ho
  ·rename_i c e
   split at ho
   ·rename_i x' y' t t2 hc ha hat
    split at ho
    ·rename_i ht
     simp only [Bool.and_eq_true] at ho
     obtain ⟨⟨h1,h2⟩,h3⟩:=ho
     simp only [evI] at he
     split at he
     ·rename_i ex
      split at he
      ·rename_i ey
       split at he
       ·rename_i hq
        obtain ⟨rfl,rfl,rfl⟩:=hq
        simp only [Option.bind_eq_some_iff] at he
        obtain ⟨R,hr,⟨R2,s2,ro2,ys⟩,hl,he⟩:=he
        split at he
        ·rename_i hb
         injection he with he;injection he with e2 e3;subst e2;subst e3
         obtain ⟨v,w',A',g1,g2,g3⟩:=Qjs (D:=D) h.tr h.heap h.fr h.ids e hc (QaK ha) (QaK hat) h1 h2 ht h3 ex ey hr hb.1 hl hb.2
         exact Qbu h hD hd ⟨v,w',A',g1,⟨g2.heap,g2.le,g2.big,g2.fr,fun r R hr=>hD r (g2.ids r R hr),g2.size,g2.out,g2.keys⟩,by simpa only [VR,V1,PR] using g3⟩ hn
        ·cases he
       ·cases he
      ·cases he
     ·cases he
    ·cases ho
   ·cases ho
  ·cases ho
 | copyK sz x y =>
  simp only [Qdc] at ho
  split at ho
  ·rename_i c e
   split at ho
   ·rename_i x' y' t t2 hc ha hat
    split at ho
    ·rename_i ht
     simp only [Bool.and_eq_true] at ho
     obtain ⟨⟨h1,h2⟩,h3⟩:=ho
     simp only [evI] at he
     split at he
     ·rename_i ex
      split at he
      ·rename_i r2 q2 pv2 sz2 off2 len2 ey
       split at he
       ·rename_i hq
        obtain ⟨rfl,rfl,hne,rfl,rfl⟩:=hq
        simp only [Option.bind_eq_some_iff] at he
        obtain ⟨R,hr,R2,hr2,he⟩:=he
        split at he
        ·rename_i hb
         injection he with he;injection he with e2 e3;subst e2;subst e3
         obtain ⟨v,w',A',g1,g2,g3⟩:=Qjs (D:=D) h.tr h.heap h.fr h.ids e hc (QaK ha) (QaK hat) h1 h2 ht h3 ex ey hr hb.1 (R2:=R2) (s2:=R2.sz) (ro2 := !R2.own) (ys:=R2.xs) (by simp [QcV,hr2,Qaj.arr]) hb.2
         have g4:=g2.trans (Qm6 g2.heap g2.fr g2.ids [r2]) (fun _ h=>h)
         exact Qbu h hD hd ⟨v,w',A',g1,⟨g4.heap,g4.le,g4.big,g4.fr,fun r R hr=>hD r (g4.ids r R hr),g4.size,g4.out,g4.keys⟩,by simpa only [VR,V1,PR] using g3⟩ hn
        ·cases he
       ·cases he
      ·cases he
     ·cases he
    ·cases ho
   ·cases ho
  ·cases ho
 | clr zero x =>
  simp only [Qdc] at ho
  split at ho
  ·rename_i c e
   split at ho
   ·rename_i x' t hc ha hat
    split at ho
    ·rename_i ht
     simp only [Bool.and_eq_true,decide_eq_true_eq] at ho
     obtain ⟨⟨h1,h2⟩,h3⟩:=ho
     simp only [evI] at he
     split at he
     ·rename_i ex
      split at he
      ·rename_i hq
       obtain ⟨rfl,rfl⟩:=hq
       simp only [Option.bind_eq_some_iff] at he
       obtain ⟨R,hr,he⟩:=he
       split at he
       ·rename_i hb
        injection he with he;injection he with e2 e3;subst e2;subst e3
        obtain ⟨v,w',A',g1,g2,g3⟩:=QsE (D:=D) h.tr h.heap h.fr h.ids e hc (QaK ha) (QaK hat) h1 ht h2 h3 ex hr hb.1 hb.2
        exact Qbu h hD hd ⟨v,w',A',g1,⟨g2.heap,g2.le,g2.big,g2.fr,fun r R hr=>hD r (g2.ids r R hr),g2.size,g2.out,g2.keys⟩,by simp only [VR,V1,PR]⟩ hn
       ·cases he
      ·cases he
     ·cases he
    ·cases ho
   ·cases ho
  ·cases ho
 | call f ms args=>exact Qg4 h hctr he ho rfl hd hfree hD hD' fun A' v w' hs st _=>hn A' v w' hs st
 | callv g ms args=>exact Qg4 h hctr he ho rfl hd hfree hD hD' fun A' v w' hs st _=>hn A' v w' hs st
end
end Go.Proofs.YtallpjhkmcgpoaaGreat.V
end
section
namespace Go.Proofs.YtallpjhkmcgpoaaGreat.V
open Go
def X.rd:X→List Nat
 | .t n=>[n]
 | .k _=>[]
def QtV:Option X→List Nat
 | some x=>x.rd
 | none=>[]
def Qt2 (l:List X):List Nat:=l.flatMap X.rd
def I.rd:I→List Nat
 | .mv x | .nilc x | .un _ x | .field _ _ x | .ext _ x | .len _ x | .cap x | .conv _ x | .faddr _ x | .bts x | .load _ x | .box _ x | .boxK x | .mks _ _ _ x | .clr _ x=>x.rd
 | .pick c a b=>c.rd++(a.rd++b.rd)
 | .bin _ _ x y | .eqA _ _ x y | .idxS x y | .idxA _ _ _ x y | .iaddr _ x y | .ovl _ x y | .store _ x y | .app _ _ x y | .copy _ x y | .copyK _ x y=>x.rd++y.rd
 | .build _ ps=>ps.flatMap (·.2.2.rd)
 | .slS x lo hi | .slR _ x lo hi | .slC _ x lo hi=>x.rd++(QtV lo++QtV hi)
 | .slX _ k x y | .appZ _ _ k x y=>k.rd++(x.rd++y.rd)
 | .slM _ x lo hi mx=>x.rd++(QtV lo++(QtV hi++QtV mx))
 | .mkfn _ xs | .mm _ xs | .call _ _ xs=>Qt2 xs
 | .alloc _=>[]
 | .lit _ _ _ ps=>ps.flatMap (·.2.rd)
 | .callv g _ xs=>g.rd++Qt2 xs
section
variable {tm tm':Tm}
theorem X.ev_congr {x:X} (h:∀ t∈x.rd,tm t=tm' t):x.ev tm=x.ev tm':=by
 cases x with
 | t n=>exact h n (by simp [X.rd])
 | k v=>rfl
theorem QgX {l:List X} (h:∀ t∈Qt2 l,tm t=tm' t):l.map (·.ev tm)=l.map (·.ev tm') :=
 List.map_congr_left fun x hx=>X.ev_congr fun t ht=>h t (List.mem_flatMap.2 ⟨x,hx,ht⟩)
theorem Qcu {x:Option X} {hi d:Nat} (h:∀ t∈QtV x,tm t=tm' t):bnd tm hi x d=bnd tm' hi x d:=by
 cases x with
 | none=>rfl
 | some x=>simp only [bnd,X.ev_congr h]
theorem Qfn:∀ {ps:List (Nat×Nat×X)} {cs:List AV}, (∀ t∈ps.flatMap (·.2.2.rd),tm t=tm' t)→Qdq tm cs ps=Qdq tm' cs ps
 | [],_,_=>rfl
 | (o,n,x)::ps,cs,h=>by
  have h1:x.ev tm=x.ev tm':=X.ev_congr fun t ht=>h t (by simp [ht])
  have h2:∀ cs,Qdq tm cs ps=Qdq tm' cs ps:=fun cs=>Qfn fun t ht=>h t (by rw [List.flatMap_cons];exact List.mem_append_right _ ht)
  simp only [Qdq,h1,h2]
theorem Qka {rs:Rs} : ∀ {ps:List (Nat×X)} {xs:Els} {asx:List Nat}, (∀ t∈ps.flatMap (·.2.rd),tm t=tm' t)→evI.go tm rs ps xs asx=evI.go tm' rs ps xs asx
 | [],_,_,_=>rfl
 | (j,x)::ps,xs,asx,h=>by
  have h1:x.ev tm=x.ev tm':=X.ev_congr fun t ht=>h t (by simp [ht])
  have h2:∀ xs asx,evI.go tm rs ps xs asx=evI.go tm' rs ps xs asx:=fun _ _=>Qka fun t ht=>h t (by rw [List.flatMap_cons];exact List.mem_append_right _ ht)
  simp only [evI.go,h1,h2]
theorem in2 {l l':List Nat} (h:∀ t∈l++l',tm t=tm' t):(∀ t∈l,tm t=tm' t)∧∀ t∈l',tm t=tm' t :=
 ⟨fun t ht=>h t (List.mem_append_left _ ht),fun t ht=>h t (List.mem_append_right _ ht)⟩
theorem Qih {call:QaM} {fresh:Nat} {rs:Rs} {i:I} (h:∀ t∈i.rd,tm t=tm' t):evI call fresh tm rs i=evI call fresh tm' rs i:=by
 cases i <;> simp only [I.rd] at h <;> try (first|(simp only [evI,X.ev_congr h];done)|(simp only [evI,QgX h];done))
 case alloc=>rfl
 case pick c a b=>simp only [evI,X.ev_congr (in2 h).1,X.ev_congr (in2 (in2 h).2).1,X.ev_congr (in2 (in2 h).2).2]
 case bin=>simp only [evI,X.ev_congr (in2 h).1,X.ev_congr (in2 h).2]
 case eqA=>simp only [evI,X.ev_congr (in2 h).1,X.ev_congr (in2 h).2]
 case idxS=>simp only [evI,X.ev_congr (in2 h).1,X.ev_congr (in2 h).2]
 case idxA=>simp only [evI,X.ev_congr (in2 h).1,X.ev_congr (in2 h).2]
 case ovl=>simp only [evI,X.ev_congr (in2 h).1,X.ev_congr (in2 h).2]
 case iaddr=>simp only [evI,X.ev_congr (in2 h).1,X.ev_congr (in2 h).2]
 case store=>simp only [evI,X.ev_congr (in2 h).1,X.ev_congr (in2 h).2]
 case app=>simp only [evI,X.ev_congr (in2 h).1,X.ev_congr (in2 h).2]
 case slX=>simp only [evI,X.ev_congr (in2 h).1,X.ev_congr (in2 (in2 h).2).1,X.ev_congr (in2 (in2 h).2).2]
 case appZ=>simp only [evI,X.ev_congr (in2 h).1,X.ev_congr (in2 (in2 h).2).1,X.ev_congr (in2 (in2 h).2).2]
 case copyK=>simp only [evI,X.ev_congr (in2 h).1,X.ev_congr (in2 h).2]
 case copy=>simp only [evI,X.ev_congr (in2 h).1,X.ev_congr (in2 h).2]
 case build=>simp only [evI,Qfn h]
 case slS=>simp only [evI,X.ev_congr (in2 h).1,Qcu (in2 (in2 h).2).1,Qcu (in2 (in2 h).2).2]
 case slR=>simp only [evI,X.ev_congr (in2 h).1,Qcu (in2 (in2 h).2).1,Qcu (in2 (in2 h).2).2]
 case slC=>simp only [evI,X.ev_congr (in2 h).1,Qcu (in2 (in2 h).2).1,Qcu (in2 (in2 h).2).2]
 case slM=>simp only [evI,X.ev_congr (in2 h).1,Qcu (in2 (in2 h).2).1,Qcu (in2 (in2 (in2 h).2).2).1,Qcu (in2 (in2 (in2 h).2).2).2]
 case lit=>simp only [evI,Qka h]
 case mm mx xs =>
  cases xs with
  | nil=>rfl
  | cons x xs =>
   have h':∀ t∈x.rd++Qt2 xs,tm t=tm' t:=fun t ht=>h t (by rwa [Qt2,List.flatMap_cons])
   simp only [evI,X.ev_congr (in2 h').1,QgX (in2 h').2]
 case callv=>simp only [evI,X.ev_congr (in2 h).1,QgX (in2 h).2]
end
def I.pure:I→Bool
 | .mv _ | .pick .. | .nilc _ | .bin .. | .eqA .. | .un .. | .build .. | .field .. | .ext .. | .idxS .. | .idxA .. | .slS .. | .slR .. | .slM .. | .len .. | .cap .. | .conv .. | .faddr .. | .iaddr .. | .mkfn .. | .mm .. => true
 | _=>false
def I.quiet:I→Bool
 | .bts _ | .load .. | .slC .. | .ovl .. => true
 | i=>i.pure
theorem I.quiet_of {i:I} (h:i.pure=true):i.quiet=true:=by cases i <;> simp_all [I.quiet,I.pure]
def qv (tm:Tm) (rs:Rs) (i:I):Option AV:=(evI (fun _ _=>none) 0 tm rs i).map (·.1)
theorem Qig {call:QaM} {fresh:Nat} {tm:Tm} {rs:Rs} {i:I} (h:i.quiet=true):evI call fresh tm rs i=(qv tm rs i).map (·, rs):=by
 cases i <;> simp only [I.quiet,I.pure,Bool.false_eq_true] at h <;> simp only [evI,qv]
 all_goals (repeat' split)
 all_goals (simp only [Option.map_some,Option.map_none,Option.map_map,Option.map_bind,Option.bind_map,Function.comp_def];try rfl)
 all_goals skip
theorem QsS {tm:Tm} {rs rs':Rs} {i:I} (h:i.pure=true):qv tm rs i=qv tm rs' i:=by
 cases i <;> simp only [I.pure,Bool.false_eq_true] at h <;> simp only [evI,qv]
 all_goals (repeat' split)
 all_goals (simp only [Option.map_some,Option.map_none,Option.map_map,Option.map_bind,Option.bind_map,Function.comp_def];try rfl)
 all_goals skip
def QyN:Option (Nat×Bool)→List Nat
 | some (t,_)=>[t]
 | none=>[]
def Op'.rd (o:Op'):List Nat:=QyN o.g++(o.s++o.i.rd)
def Qok (x y:Op'):Bool:=(x.d.all fun d => !y.rd.contains d && !(y.d == some d)) && ((y.d.all fun d => !x.rd.contains d) && y.s.all fun d => !x.rd.contains d)
def QeY (x y:Op'):Bool:=Qok x y && (x.s.isEmpty && (x.i.pure || (x.i.quiet && (y.i.quiet && y.s.isEmpty))))
section
variable {call:QaM} {n m:Nat} {x y o:Op'} {tm tm':Tm} {rs rs':Rs}
def opv (call:QaM) (n:Nat) (o:Op') (tm:Tm) (rs:Rs):Option (AV×Tm×Rs) :=
 (Qcw tm o.g).bind fun w=>if w then (if o.s.length≤4 then QbE (n+16) tm rs o.s else none).bind fun s'=>(evI call n s'.1 s'.2.1 o.i).map fun p=>(p.1,s'.1,if o.i.isCall then QcD s'.2.1 p.2 s'.2.2 else p.2) else some (.tup [],tm,rs)
theorem QeB:Qeo call n o (tm,rs)=(opv call n o tm rs).map fun p=>(QeN p.2.1 o.d p.1,p.2.2):=by
 simp only [Qeo,opv]
 cases Qcw tm o.g with
 | none=>rfl
 | some w =>
  cases w with
  | false=>rfl
  | true =>
   simp only [Option.bind_some,if_true]
   split
   ·cases QbE (n+16) tm rs o.s with
    | none=>rfl
    | some s'=>simp only [Option.bind_some,Option.map_map];rfl
   ·rfl
theorem QiQ {d:Option Nat} {v:AV} {t:Nat} (h:d≠some t):QeN tm d v t=tm t:=by
 cases d with
 | none=>rfl
 | some d=>exact Qaz _ _ fun e=>h (by rw [e])
theorem QhW {d e:Option Nat} {v u:AV} (h:∀ x,d=some x→e≠some x):QeN (QeN tm d v) e u=QeN (QeN tm e u) d v:=by
 cases d with
 | none=>rfl
 | some d =>
  cases e with
  | none=>rfl
  | some e =>
   have hne:d≠e:=fun h'=>h d rfl (by rw [h'])
   funext t
   simp only [QeN]
   by_cases h1:t=d
   ·subst h1;rw [Qaz _ _ hne,Q6,Q6]
   ·by_cases h2:t=e
    ·subst h2;rw [Q6,Qaz _ _ h1,Q6]
    ·rw [Qaz _ _ h2,Qaz _ _ h1,Qaz _ _ h1,Qaz _ _ h2]
theorem QfD {g:Option (Nat×Bool)} (h:∀ t∈QyN g,tm t=tm' t):Qcw tm g=Qcw tm' g:=by
 unfold Qcw
 cases g with
 | none=>rfl
 | some g=>simp only [h g.1 (by simp [QyN])]
theorem Qcn {rs0 rs:Rs} : QcD rs0 rs []=rs:=rfl
theorem QfH {d:Option Nat} {v:AV} : ∀ {s:List Nat} {n:Nat} {tm:Tm} {rs:Rs}, (∀ t∈s,d≠some t)→QbE n (QeN tm d v) rs s=(QbE n tm rs s).map fun p=>(QeN p.1 d v,p.2)
 | [],n,tm,rs,h=>rfl
 | t::s,n,tm,rs,h=>by
  simp only [QbE]
  rw [QiQ (h t (by simp))]
  cases QbR n rs (tm t) with
  | none=>rfl
  | some a =>
   simp only [Option.bind_some]
   have:up' (QeN tm d v) t a.1=QeN (up' tm t a.1) d v:=(QhW (e:=some t) (u:=a.1) fun x e1 e2=>h t (by simp) (e1.trans e2.symm))
   rw [this,QfH fun t' ht=>h t' (by simp [ht])]
   cases QbE (n+16) (up' tm t a.1) a.2.1 s <;> rfl
theorem Qgw:∀ {s:List Nat} {n:Nat} {tm:Tm} {rs:Rs} {p:Tm×Rs×List Pl}, QbE n tm rs s=some p→∀ t,t∉s→p.1 t=tm t
 | [],n,tm,rs,p,h,t,ht=>by simp only [QbE,Option.some.injEq] at h;subst h;rfl
 | t'::s,n,tm,rs,p,h,t,ht=>by
  simp only [QbE,Option.bind_eq_some_iff,Option.map_eq_some_iff] at h
  obtain ⟨a,h1,b,h2,h3⟩:=h
  subst h3
  rw [Qgw h2 t (fun e=>ht (by simp [e])),Qaz _ _ fun e=>ht (by simp [e])]
theorem Qh1 (hs:o.s=[]) (h:o.i.quiet=true):∃ g:Option AV,∀ call n,opv call n o tm rs=g.map (·, tm,rs):=by
 refine ⟨(Qcw tm o.g).bind fun w=>if w then qv tm rs o.i else some (.tup []),fun call n => ?_⟩
 simp only [opv,hs,List.length_nil,Nat.zero_le,if_true,QbE,Option.bind_some,Qcn,ite_self,Qig h,Option.map_map]
 cases Qcw tm o.g with
 | none=>rfl
 | some w=>cases w <;> rfl
theorem Qo9 (hs:o.s=[]) (h:o.i.pure=true):∃ g:Option AV,∀ call n rs tm',(∀ t∈o.rd,tm' t=tm t)→opv call n o tm' rs=g.map (·, tm',rs):=by
 refine ⟨(Qcw tm o.g).bind fun w=>if w then qv tm (fun _=>none) o.i else some (.tup []),fun call n rs tm' ht => ?_⟩
 have h1:Qcw tm' o.g=Qcw tm o.g:=QfD fun t h=>ht t (List.mem_append_left _ h)
 have h2:qv tm' (fun _=>none) o.i=qv tm (fun _=>none) o.i:=by
  unfold qv
  rw [Qih fun t h=>ht t (List.mem_append_right _ (List.mem_append_right _ h))]
 simp only [opv,hs,List.length_nil,Nat.zero_le,if_true,QbE,Option.bind_some,Qcn,ite_self,Qig (I.quiet_of h),Option.map_map,QsS (rs:=rs) (rs':=fun _=>none) h,h1,h2]
 cases Qcw tm o.g with
 | none=>rfl
 | some w=>cases w <;> rfl
theorem Qmm {d:Option Nat} {v:AV} (h:∀ t∈o.rd,d≠some t):opv call n o (QeN tm d v) rs=(opv call n o tm rs).map fun p=>(p.1,QeN p.2.1 d v,p.2.2):=by
 have h1:Qcw (QeN tm d v) o.g=Qcw tm o.g:=QfD fun t ht=>QiQ (h t (List.mem_append_left _ ht))
 simp only [opv,h1]
 cases Qcw tm o.g with
 | none=>rfl
 | some w =>
  cases w with
  | false=>rfl
  | true =>
   simp only [Option.bind_some,if_true]
   split
   ·rw [QfH fun t ht=>h t (List.mem_append_right _ (List.mem_append_left _ ht))]
    cases QbE (n+16) tm rs o.s with
    | none=>rfl
    | some p =>
     simp only [Option.map_some,Option.bind_some,Option.map_map]
     have:evI call n (QeN p.1 d v) p.2.1 o.i=evI call n p.1 p.2.1 o.i:=Qih fun t ht=>QiQ (h t (List.mem_append_right _ (List.mem_append_right _ ht)))
     rw [this]
     rfl
   ·rfl
theorem Qjg (h:Qok x y=true):(∀ t∈y.rd,x.d≠some t)∧(∀ d,x.d=some d→y.d≠some d)∧(∀ t∈x.rd,y.d≠some t)∧∀ t∈x.rd,t∉y.s:=by
 simp only [Qok,Bool.and_eq_true,Option.all_eq_true,Bool.not_eq_true',beq_eq_false_iff_ne,List.contains_eq_mem,decide_eq_false_iff_not,List.all_eq_true] at h
 exact ⟨fun t ht e=>(h.1 t e).1 ht,fun d e=>(h.1 d e).2,fun t ht e=>h.2.1 t e ht,fun t ht e=>h.2.2 t e ht⟩
theorem QvB {p:AV×Tm×Rs} (h:opv call m y tm rs=some p):∀ t,t∉y.s→p.2.1 t=tm t:=by
 intro t ht
 simp only [opv,Option.bind_eq_some_iff] at h
 obtain ⟨w,_,h⟩:=h
 cases w with
 | false=>simp only [Bool.false_eq_true,if_false,Option.some.injEq] at h;subst h;rfl
 | true =>
  simp only [if_true,Option.bind_eq_some_iff,Option.map_eq_some_iff] at h
  obtain ⟨s',h1,q,h2,h3⟩:=h
  subst h3
  split at h1
  ·exact Qgw h1 t ht
  ·cases h1
theorem QnD (h:QeY x y=true) {s s1 s2:Tm×Rs} (hx:Qeo call n x s=some s1) (hy:Qeo call m y s1=some s2):∃ s1',Qeo call m y s=some s1'∧Qeo call n x s1'=some s2:=by
 obtain ⟨tm,rs⟩:=s
 simp only [QeY,Bool.and_eq_true,Bool.or_eq_true,List.isEmpty_iff] at h
 obtain ⟨ha,hs,hk⟩:=h
 obtain ⟨h1,h2,h3,h4⟩:=Qjg ha
 have hq:x.i.quiet=true:=hk.elim I.quiet_of (fun h=>h.1)
 rw [QeB] at hx
 obtain ⟨g,hg⟩:=Qh1 (tm:=tm) (rs:=rs) hs hq
 have hgn:=hg call n
 rw [hgn] at hx
 cases g with
 | none=>cases hx
 | some v =>
  simp only [Option.map_some,Option.some.injEq] at hx hgn
  subst hx
  rw [QeB,Qmm h1] at hy
  rw [QeB]
  cases hu:opv call m y tm rs with
  | none=>rw [hu] at hy;cases hy
  | some p =>
   rw [hu] at hy
   simp only [Option.map_some,Option.some.injEq] at hy ⊢
   subst hy
   refine ⟨_,rfl, ?_⟩
   rw [QeB,Qmm h3]
   have hat:∀ t∈x.rd,p.2.1 t=tm t:=fun t ht=>QvB hu t (h4 t ht)
   have:opv call n x p.2.1 p.2.2=some (v,p.2.1,p.2.2):=by
    rcases hk with hk|⟨_,hk,hys⟩
    ·obtain ⟨g',hg'⟩:=Qo9 (tm:=tm) hs hk
     have e:=hgn.symm.trans (hg' call n rs tm fun _ _=>rfl)
     cases g' with
     | none=>cases e
     | some v' =>
      simp only [Option.map_some,Option.some.injEq,Prod.mk.injEq,and_true] at e
      rw [hg' call n p.2.2 p.2.1 hat,e];rfl
    ·obtain ⟨g',hg'⟩:=Qh1 (tm:=tm) (rs:=rs) hys hk
     rw [hg'] at hu
     cases g' with
     | none=>cases hu
     | some u=>simp only [Option.map_some,Option.some.injEq] at hu;subst hu;exact hgn
   rw [this]
   simp only [Option.map_some,Option.some.injEq,Prod.mk.injEq,and_true]
   exact (QhW h2).symm
end
section
variable {call:QaM} {n:Nat} {ops:Array Oper} {l:List Op'} {md:Region.Mode}
def Qdr (call:QaM) (n:Nat) (md:Region.Mode) (ops:Array Oper) (l:List Op'):Nat→Array Bool→Tm×Rs→Tm×Rs→Prop
 | 0,L,s,r=>Region.ready md ops L=[]∧s=r
 | f+1,L,s,r=>(Region.ready md ops L=[]→s=r) ∧
  ∀ i∈Region.ready md ops L,∃ o s',l[i]? = some o∧Qeo call (n+i * idw) o s=some s'∧Qdr call n md ops l f (L.setIfInBounds i true) s' r
def QlA (md:Region.Mode) (ops:Array Oper) (L:Array Bool) (B:List Nat) (j:Nat):List Nat :=
 if !B.contains j && !L.getD j true && (match ops[j]? with|some mj=>mj.after.any (fun e=>Region.binds md e && B.contains e.on)|none=>false) then j::B else B
def Qkx (md:Region.Mode) (ops:Array Oper) (L:Array Bool) (i:Nat):List Nat:=(List.range ops.size).foldl (QlA md ops L) [i]
def QtU (md:Region.Mode) (ops:Array Oper) (L:Array Bool) (i:Nat) (B:List Nat):Prop :=
 i∈B∧∀ b∈B,b=i∨(L.getD b true=false∧∃ mj,ops[b]? = some mj∧∃ e∈mj.after,Region.binds md e=true∧e.on∈B)
theorem Qgq {L:Array Bool} {i:Nat} : ∀ (js B:List Nat),QtU md ops L i B→QtU md ops L i (js.foldl (QlA md ops L) B)
 | [],B,h=>h
 | j::js,B,h=>by
  refine Qgq js _ ?_
  unfold QlA
  cases hmj:ops[j]? with
  | none=>simp only [Bool.and_false,Bool.false_eq_true,if_false];exact h
  | some mj =>
   simp only
   split
   ·rename_i hc
    simp only [Bool.and_eq_true,Bool.not_eq_true'] at hc
    obtain ⟨⟨_,h2⟩,h3⟩:=hc
    refine ⟨List.mem_cons_of_mem _ h.1,fun b hb => ?_⟩
    rcases List.mem_cons.1 hb with rfl|hb
    ·right
     refine ⟨h2, ?_⟩
     obtain ⟨e,he,hb⟩:=Array.any_eq_true'.1 h3
     simp only [Bool.and_eq_true,List.contains_eq_mem,decide_eq_true_eq] at hb
     exact ⟨mj,hmj,e,he,hb.1,List.mem_cons_of_mem _ hb.2⟩
    ·rcases h.2 b hb with h4|⟨h4,mj,h5,e,h6,h7,h8⟩
     ·exact .inl h4
     ·exact .inr ⟨h4,mj,h5,e,h6,h7,List.mem_cons_of_mem _ h8⟩
   ·exact h
theorem Qdr.first {i:Nat} {oi:Op'} (hi:l[i]? = some oi) {B:List Nat} {r:Tm×Rs} : ∀ (fuel:Nat) (L:Array Bool) (s s1:Tm×Rs),
 (∀ j oj mj,ops[j]? = some mj→l[j]? = some oj→j∉B→L.getD j true=false→QeY oi oj=true)→QtU md ops L i B →
 i∈Region.ready md ops L→Qeo call (n+i * idw) oi s=some s1→Qdr call n md ops l fuel (L.setIfInBounds i true) s1 r→Qdr call n md ops l (fuel+1) L s r:=by
 intro fuel
 induction fuel with
 | zero =>
  intro L s s1 _ _ hr hy H
  refine ⟨fun h=>(by rw [h] at hr;cases hr),fun j hj => ?_⟩
  by_cases hji:j=i
  ·subst hji;exact ⟨oi,s1,hi,hy,H⟩
  ·have:=ready_mono hj hji
   rw [H.1] at this
   cases this
 | succ fuel ih =>
  intro L s s1 hfree hW hr hy H
  refine ⟨fun h=>(by rw [h] at hr;cases hr),fun j hj => ?_⟩
  by_cases hji:j=i
  ·subst hji;exact ⟨oi,s1,hi,hy,H⟩
  ·obtain ⟨oj,s2,hoj,hs2,hrest⟩:=H.2 j (ready_mono hj hji)
   obtain ⟨hjun,mj,hmj,hall⟩:=mem_ready.1 hj
   have hiun:L.getD i true=false:=(mem_ready.1 hr).1
   have hund:∀ b∈B,L.getD b true=false:=fun b hb=>by
    rcases hW.2 b hb with rfl|h
    ·exact hiun
    ·exact h.1
   have hjB:j∉B:=fun hb=>by
    rcases hW.2 j hb with h|⟨_,mj',h5,e,h6,h7,h8⟩
    ·exact hji h
    ·rw [hmj] at h5;injection h5 with h5;subst h5
     have h1:=hall e h6 h7
     have h0:=hund _ h8
     rcases Nat.lt_or_ge e.on L.size with h'|h'
     ·simp [h'] at h0 h1;rw [h0] at h1;cases h1
     ·simp [Array.getElem?_eq_none h'] at h1
   obtain ⟨s1',e1,e2⟩:=QnD (hfree j oj mj hmj hoj hjB hjun) hy hs2
   refine ⟨oj,s1',hoj,e1, ?_⟩
   have keep:∀ b,b≠j→(L.setIfInBounds j true).getD b true=L.getD b true:=fun b hb=>getD_set_ne true (Ne.symm hb)
   refine ih (L.setIfInBounds j true) s1' s2 (fun k ok mk hmk hk hkB hun => ?_) ⟨hW.1,fun b hb => ?_⟩ (ready_mono hr (Ne.symm hji)) e2 ?_
   ·refine hfree k ok mk hmk hk hkB ?_
    by_cases hjk:j=k
    ·subst hjk;exact hjun
    ·rw [getD_set_ne true hjk] at hun;exact hun
   ·rcases hW.2 b hb with h|⟨h1,h2⟩
    ·exact .inl h
    ·refine .inr ⟨?_,h2⟩
     have:b≠j:=fun e=>hjB (e▸hb)
     rw [keep b this];exact h1
   ·rw [Array.setIfInBounds_comm _ _ hji];exact hrest
def Qti (l:List Op') (L:Array Bool) (oi:Op') (B:List Nat) (js:List Nat):Bool:=js.all fun j=>B.contains j || L.getD j true || match l[j]? with
 | some oj=>QeY oi oj
 | none=>false
def Qps (md:Region.Mode) (ops:Array Oper) (l:List Op') (L:Array Bool) (i:Nat):Bool :=
 match l[i]? with
 | none=>false
 | some oi=>Qti l L oi (Qkx md ops L i) (List.range ops.size)
def Qcp (md:Region.Mode) (ops:Array Oper) (l:List Op'):QcZ→Nat→Array Bool→Option (List Nat)→Bool
 | .done,_,L,none=>(Region.ready md ops L).isEmpty
 | .take k s,f+1,L,none=>(Region.ready md ops L == [k] || ((Region.ready md ops L).contains k && Qps md ops l L k)) && Qcp md ops l s f (L.setIfInBounds k true) none
 | .take k s,f+1,L,some rs=>rs == [k] && Qcp md ops l s f (L.setIfInBounds k true) none
 | .alt a b,f,L,none=>match Region.ready md ops L with
  | []=>false
  | i::rest=>Qcp md ops l a f L (some [i]) && Qcp md ops l b f L (some rest)
 | .alt a b,f,L,some rs=>match rs with
  | []=>false
  | i::rest=>Qcp md ops l a f L (some [i]) && Qcp md ops l b f L (some rest)
 | _,_,_,_=>false
theorem Qdr.all {f:Nat} {L:Array Bool} {s r:Tm×Rs} (hne:Region.ready md ops L≠[])
 (h:∀ i∈Region.ready md ops L,∃ o s',l[i]? = some o∧Qeo call (n+i * idw) o s=some s'∧Qdr call n md ops l f (L.setIfInBounds i true) s' r):Qdr call n md ops l (f+1) L s r :=
 ⟨fun h0=>absurd h0 hne,h⟩
theorem QoU {sch:QcZ} : ∀ {f:Nat} {L:Array Bool} {rs:List Nat}, Qcp md ops l sch f L (some rs)=true→∃ f',f=f'+1:=by
 induction sch with
 | done=>intro f L rs h;simp [Qcp] at h
 | take k s ih=>intro f L rs h;cases f with|zero=>simp [Qcp] at h|succ f=>exact ⟨f,rfl⟩
 | alt a b iha ihb =>
  intro f L rs h
  cases rs with
  | nil=>simp [Qcp] at h
  | cons i rest=>simp only [Qcp,Bool.and_eq_true] at h;exact iha h.1
theorem QlV {sch:QcZ} : ∀ {f:Nat} {L:Array Bool} {s r:Tm×Rs}, Qcg call n l sch s=some r →
 (Qcp md ops l sch f L none=true→Qdr call n md ops l f L s r) ∧
 ∀ rs f',f=f'+1→Qcp md ops l sch f L (some rs)=true→∀ i∈rs,∃ o s',l[i]? = some o∧Qeo call (n+i * idw) o s=some s'∧Qdr call n md ops l f' (L.setIfInBounds i true) s' r:=by
 induction sch with
 | done =>
  intro f L s r h
  simp only [Qcg,Option.some.injEq] at h
  subst h
  refine ⟨fun h => ?_,fun rs f' e h=>by simp [Qcp] at h⟩
  simp only [Qcp,List.isEmpty_iff] at h
  cases f with
  | zero=>exact ⟨h,rfl⟩
  | succ f=>exact ⟨fun _=>rfl,by rw [h];simp⟩
 | take k s' ih =>
  intro f L s r h
  simp only [Qcg,Option.bind_eq_some_iff] at h
  obtain ⟨o,ho,s1,hs1,hr⟩:=h
  cases f with
  | zero=>exact ⟨fun h=>by simp [Qcp] at h,fun rs f' e=>by omega⟩
  | succ f =>
   constructor
   ·intro h
    simp only [Qcp,Bool.and_eq_true,Bool.or_eq_true,beq_iff_eq,List.contains_eq_mem,decide_eq_true_eq] at h
    obtain ⟨h1,h2⟩:=h
    have hrest:=(ih (f:=f) (L:=L.setIfInBounds k true) hr).1 h2
    rcases h1 with h1|⟨h1,h3⟩
    ·refine Qdr.all (by rw [h1];simp) fun i hi => ?_
     rw [h1,List.mem_singleton] at hi
     subst hi
     exact ⟨o,s1,ho,hs1,hrest⟩
    ·refine Qdr.first ho (B:=Qkx md ops L k) f L s s1 (fun j oj mj hmj hoj hnB hun => ?_) (Qgq _ _ ⟨List.mem_singleton.2 rfl,fun b hb => .inl (List.mem_singleton.1 hb)⟩) h1 hs1 hrest
     simp only [Qps,ho,Qti,List.all_eq_true,List.mem_range] at h3
     have h4:=h3 j (Array.getElem?_eq_some_iff.1 hmj).1
     simp only [hoj,Bool.or_eq_true,List.contains_eq_mem,decide_eq_true_eq,hun,Bool.false_eq_true,or_false] at h4
     rcases h4 with h4|h4
     ·exact absurd h4 hnB
     ·exact h4
   ·intro rs f' e h i hi
    simp only [Qcp,Bool.and_eq_true,beq_iff_eq] at h
    obtain ⟨h1,h2⟩:=h
    have e':f'=f:=by omega
    subst e'
    rw [h1,List.mem_singleton] at hi
    subst hi
    exact ⟨o,s1,ho,hs1,(ih hr).1 h2⟩
 | alt a b iha ihb =>
  intro f L s r h
  simp only [Qcg,Option.bind_eq_some_iff] at h
  obtain ⟨r',ha,hb⟩:=h
  split at hb
  case isFalse=>cases hb
  rename_i hb'
  injection hb with hb;subst hb
  constructor
  ·intro h
   cases hrd:Region.ready md ops L with
   | nil=>simp [Qcp,hrd] at h
   | cons i rest =>
    simp only [Qcp,hrd,Bool.and_eq_true] at h
    obtain ⟨f',rfl⟩:=QoU h.1
    refine Qdr.all (by rw [hrd];simp) fun j hj => ?_
    rw [hrd,List.mem_cons] at hj
    rcases hj with rfl|hj
    ·exact (iha ha).2 _ f' rfl h.1 j (by simp)
    ·exact (ihb hb').2 _ f' rfl h.2 j hj
  ·intro rs f' e h j hj
   cases rs with
   | nil=>cases hj
   | cons i rest =>
    simp only [Qcp,Bool.and_eq_true] at h
    rw [List.mem_cons] at hj
    rcases hj with rfl|hj
    ·exact (iha ha).2 _ f' e h.1 j (by simp)
    ·exact (ihb hb').2 _ f' e h.2 j hj
end
end Go.Proofs.YtallpjhkmcgpoaaGreat.V
end
section
namespace Go.Proofs.YtallpjhkmcgpoaaGreat.V
open Go
def bit (m i:Nat):Bool:=Nat.beq (Nat.land (Nat.shiftRight m i) 1) 1
theorem Qiw (m i:Nat):bit m i=m.testBit i:=by
 rw [Nat.testBit_eq_decide_div_mod_eq]
 unfold bit
 show Nat.beq ((m >>> i) &&& 1) 1=_
 rw [Nat.and_one_is_mod,Nat.shiftRight_eq_div_pow,Bool.eq_iff_iff,Nat.beq_eq,decide_eq_true_eq]
def put (m i:Nat):Nat:=Nat.lor m (Nat.shiftLeft 1 i)
theorem Qg8 (m i j:Nat):(put m i).testBit j=(m.testBit j || decide (i=j)):=by
 show (m ||| (1 <<< i)).testBit j=_
 rw [Nat.testBit_or,Nat.shiftLeft_eq,Nat.one_mul,Nat.testBit_two_pow]
def Qfk (md:Region.Mode) (es:List Edge):Nat:=es.foldr (fun e m=>if Region.binds md e then put m e.on else m) 0
theorem Qdk (md:Region.Mode):∀ (es:List Edge) (j:Nat),(Qfk md es).testBit j=es.any fun e=>Region.binds md e && decide (e.on=j)
 | [],j=>by simp [Qfk]
 | e::es,j=>by
  have ih:=Qdk md es j
  rw [List.any_cons, ←ih]
  show (if Region.binds md e=true then put (Qfk md es) e.on else Qfk md es).testBit j=_
  split
  ·rename_i h;rw [Qg8,h,Bool.true_and,Bool.or_comm]
  ·rename_i h;simp [h]
theorem Qso {a m:Nat} : Nat.beq (Nat.land a m) a=true↔∀ j,a.testBit j=true→m.testBit j=true:=by
 rw [Nat.beq_eq]
 show a &&& m=a↔_
 constructor
 ·intro h j hj
  rw [←h,Nat.testBit_and,Bool.and_eq_true] at hj
  exact hj.2
 ·intro h
  refine Nat.eq_of_testBit_eq fun j => ?_
  rw [Nat.testBit_and]
  cases hj:a.testBit j with
  | false=>rfl
  | true=>rw [h j hj];rfl
theorem Qpf {a m:Nat} : Nat.beq (Nat.land a m) 0=false↔∃ j,a.testBit j=true∧m.testBit j=true:=by
 constructor
 ·intro h
  rcases Classical.em (∃ j,a.testBit j=true∧m.testBit j=true) with h'|h'
  ·exact h'
  ·have:a &&& m=0:=by
    refine Nat.eq_of_testBit_eq fun j => ?_
    rw [Nat.testBit_and,Nat.zero_testBit]
    cases h1:a.testBit j with
    | false=>rfl
    | true=>cases h2:m.testBit j with
     | false=>rfl
     | true=>exact absurd ⟨j,h1,h2⟩ h'
   have h2:Nat.beq (Nat.land a m) 0=true:=by rw [Nat.beq_eq];exact this
   rw [h2] at h;cases h
 ·rintro ⟨j,h1,h2⟩
  cases h:Nat.beq (Nat.land a m) 0 with
  | false=>rfl
  | true =>
   rw [Nat.beq_eq] at h
   have h:a &&& m=0:=h
   have:=congrArg (fun x=>x.testBit j) h
   simp [h1,h2] at this
def rdF (m:Nat):List Nat→Nat→List Nat
 | [],_=>[]
 | a::asx,i=>if !bit m i && Nat.beq (Nat.land a m) a then i::rdF m asx (i+1) else rdF m asx (i+1)
def QtZ (m:Nat):List Nat→Nat→Nat→Nat
 | [],_,b=>b
 | a::asx,i,b=>QtZ m asx (i+1) (if !bit b i && (!bit m i && !Nat.beq (Nat.land a b) 0) then put b i else b)
def Qnp (m b:Nat) (oi:Op'):List Op'→Nat→Bool
 | [],_=>true
 | o::os,i=>(bit b i || (bit m i || QeY oi o)) && Qnp m b oi os (i+1)
def QiD (l:List Op') (ms:List Nat):QcZ→Nat→Nat→Option (List Nat)→Bool
 | .done,_,m,none=>(rdF m ms 0).isEmpty
 | .take k s,f+1,m,none=>(match rdF m ms 0 with
  | []=>false
  | [j]=>Nat.beq j k
  | js=>js.contains k && (match l[k]? with
   | some oi=>Qnp m (QtZ m ms 0 (put 0 k)) oi l 0
   | none=>false)) && QiD l ms s f (put m k) none
 | .take k s,f+1,m,some rs=>rs == [k] && QiD l ms s f (put m k) none
 | .alt a b,f,m,none=>match rdF m ms 0 with
  | []=>false
  | i::rest=>QiD l ms a f m (some [i]) && QiD l ms b f m (some rest)
 | .alt a b,f,m,some rs=>match rs with
  | []=>false
  | i::rest=>QiD l ms a f m (some [i]) && QiD l ms b f m (some rest)
 | _,_,_,_=>false
def Qyz (ops:Array Oper) (l:List Op') (sch:QcZ):Bool :=
 Nat.beq l.length ops.size && QiD l (ops.toList.map fun o=>Qfk .any o.after.toList) sch ops.size 0 none
section
variable {ops:Array Oper} {l:List Op'} {md:Region.Mode}
def Qou (ops:Array Oper) (L:Array Bool) (m:Nat):Prop:=L.size=ops.size∧∀ j,L.getD j false=m.testBit j
theorem Qou.tt {L:Array Bool} {m:Nat} (h:Qou ops L m) {j:Nat} (hj:j<ops.size):L.getD j true=m.testBit j:=by
 rw [←h.2 j]
 have:j<L.size:=by rw [h.1];exact hj
 simp [Array.getD,this]
theorem Qou.put {L:Array Bool} {m k:Nat} (h:Qou ops L m) (hk:k<ops.size):Qou ops (L.setIfInBounds k true) (V.put m k):=by
 refine ⟨by simp [h.1],fun j => ?_⟩
 rw [Qg8, ←h.2 j]
 have hk':k<L.size:=by rw [h.1];exact hk
 by_cases e:k=j
 ·subst e;simp [Array.getD,hk']
 ·by_cases hj:j<L.size
  ·simp [Array.getD,hj,e]
  ·simp [Array.getD,hj,e]
def msk (md:Region.Mode) (ops:Array Oper):List Nat:=ops.toList.map fun o=>Qfk md o.after.toList
theorem QqD {p:Nat→Bool} {m:Nat} : ∀ (asx:List Nat) (i:Nat),(∀ j a,asx[j]? = some a→p (i+j)=(!bit m (i+j) && Nat.beq (Nat.land a m) a))→(List.range' i asx.length).filter p=rdF m asx i
 | [],i,_=>by simp [rdF]
 | a::asx,i,h=>by
  have h0:=h 0 a rfl
  rw [Nat.add_zero] at h0
  have ih:=QqD asx (i+1) (fun j b hj=>by
   have:=h (j+1) b (by simpa using hj)
   rwa [show i+(j+1)=i+1+j by omega] at this)
  rw [List.length_cons,List.range'_succ,List.filter_cons,ih,h0]
  rfl
theorem Qg7 {L:Array Bool} {m:Nat} (h:Qou ops L m):Region.ready md ops L=rdF m (msk md ops) 0:=by
 unfold Region.ready
 rw [List.range_eq_range']
 have hl:ops.size=(msk md ops).length:=by simp [msk]
 rw [hl]
 refine QqD _ 0 fun j a hj => ?_
 rw [Nat.zero_add]
 unfold msk at hj
 rw [List.getElem?_map,Array.getElem?_toList] at hj
 cases ho:ops[j]? with
 | none=>rw [ho] at hj;cases hj
 | some o =>
  rw [ho] at hj
  simp only [Option.map_some,Option.some.injEq] at hj
  subst hj
  have hlt:j<ops.size:=by
   rcases Nat.lt_or_ge j ops.size with h|h
   ·exact h
   ·rw [Array.getElem?_eq_none h] at ho;cases ho
  rw [h.tt hlt,Qiw]
  simp only [Option.map_some,Option.getD_some]
  congr 1
  rw [Bool.eq_iff_iff,Qso,Array.all_eq_true']
  constructor
  ·intro g i hi
   rw [Qdk,List.any_eq_true] at hi
   obtain ⟨e,he,hi⟩:=hi
   simp only [Bool.and_eq_true,decide_eq_true_eq] at hi
   have:=g e (by simpa using he)
   rw [hi.1,Bool.not_true,Bool.false_or,h.2,hi.2] at this
   exact this
  ·intro g e he
   cases hb:Region.binds md e with
   | false=>rfl
   | true =>
    rw [Bool.not_true,Bool.false_or,h.2]
    refine g e.on ?_
    rw [Qdk,List.any_eq_true]
    exact ⟨e,by simpa using he,by simp [hb]⟩
def Qt0 (B:List Nat) (b:Nat):Prop:=∀ j,B.contains j=b.testBit j
theorem Qt0.cons {B:List Nat} {b i:Nat} (h:Qt0 B b):Qt0 (i::B) (put b i):=fun j=>by
 rw [List.contains_cons,h j,Qg8,Bool.or_comm]
 congr 1
 rw [Bool.eq_iff_iff,beq_iff_eq,decide_eq_true_eq,eq_comm]
theorem QrT {L:Array Bool} {m:Nat} (h:Qou ops L m):∀ (os:List Oper) (i:Nat) (B:List Nat) (b:Nat),(∀ j o,os[j]? = some o→ops[i+j]? = some o)→Qt0 B b →
 Qt0 ((List.range' i os.length).foldl (QlA md ops L) B) (QtZ m (os.map fun o=>Qfk md o.after.toList) i b)
 | [],i,B,b,_,hb=>hb
 | o::os,i,B,b,ho,hb=>by
  rw [List.length_cons,List.range'_succ,List.foldl_cons,List.map_cons,QtZ]
  have h0:ops[i]? = some o:=by have:=ho 0 o rfl;rwa [Nat.add_zero] at this
  have hlt:i<ops.size:=by
   rcases Nat.lt_or_ge i ops.size with h|h
   ·exact h
   ·rw [Array.getElem?_eq_none h] at h0;cases h0
  refine QrT h os (i+1) _ _ (fun j x hx=>by rw [show i+1+j=i+(j+1) by omega];exact ho (j+1) x (by simpa using hx)) ?_
  unfold QlA
  rw [h0]
  simp only
  have hc:(!B.contains i && !L.getD i true && o.after.any fun e=>Region.binds md e && B.contains e.on)=(!bit b i && (!bit m i && !Nat.beq (Nat.land (Qfk md o.after.toList) b) 0)):=by
   rw [hb i,h.tt hlt,Qiw,Qiw,Bool.and_assoc]
   congr 2
   rw [Bool.eq_iff_iff,Bool.not_eq_true',Qpf,Array.any_eq_true']
   constructor
   ·rintro ⟨e,he,g⟩
    simp only [Bool.and_eq_true] at g
    refine ⟨e.on, ?_,by rw [←hb];exact g.2⟩
    rw [Qdk,List.any_eq_true]
    exact ⟨e,by simpa using he,by simp [g.1]⟩
   ·rintro ⟨j,h1,h2⟩
    rw [Qdk,List.any_eq_true] at h1
    obtain ⟨e,he,h1⟩:=h1
    simp only [Bool.and_eq_true,decide_eq_true_eq] at h1
    exact ⟨e,by simpa using he,by rw [h1.1,hb,h1.2,h2];rfl⟩
  rw [hc]
  split
  ·exact hb.cons
  ·exact hb
theorem Qp0 {L:Array Bool} {m i:Nat} (h:Qou ops L m):Qt0 (Qkx md ops L i) (QtZ m (msk md ops) 0 (put 0 i)):=by
 unfold Qkx msk
 have hl:List.range ops.size=List.range' 0 ops.toList.length:=by rw [List.range_eq_range',Array.length_toList]
 rw [hl]
 refine QrT h ops.toList 0 [i] (put 0 i) (fun j o hj=>by rw [Nat.zero_add, ←Array.getElem?_toList];exact hj) ?_
 intro j
 rw [Qg8,Nat.zero_testBit,Bool.false_or,List.contains_cons,List.contains_nil,Bool.or_false,Bool.eq_iff_iff,beq_iff_eq,decide_eq_true_eq,eq_comm]
theorem Qke {m b:Nat} {oi:Op'} : ∀ (os:List Op') (i:Nat),Qnp m b oi os i=true→∀ j o,os[j]? = some o→(b.testBit (i+j) || (m.testBit (i+j) || QeY oi o))=true
 | [],i,_,j,o,h=>by simp at h
 | o'::os,i,h,j,o,hj=>by
  rw [Qnp,Bool.and_eq_true,Qiw,Qiw] at h
  cases j with
  | zero=>simp only [List.getElem?_cons_zero,Option.some.injEq] at hj;subst hj;exact h.1
  | succ j=>rw [show i+(j+1)=i+1+j by omega];exact Qke os (i+1) h.2 j o (by simpa using hj)
theorem Qth {L:Array Bool} {m k:Nat} (hl:l.length=ops.size) (h:Qou ops L m) {oi:Op'} (ho:l[k]? = some oi) (hf:Qnp m (QtZ m (msk md ops) 0 (put 0 k)) oi l 0=true):Qps md ops l L k=true:=by
 unfold Qps
 rw [ho]
 simp only [Qti,List.all_eq_true,List.mem_range]
 intro j hj
 have hj':j<l.length:=by omega
 rw [List.getElem?_eq_getElem hj']
 simp only
 have:=Qke l 0 hf j l[j] (List.getElem?_eq_getElem hj')
 rw [Nat.zero_add, ←Qp0 (md:=md) (i:=k) h j, ←h.tt hj] at this
 rw [Bool.or_assoc]
 exact this
theorem QqC {m:Nat} : ∀ (asx:List Nat) (i:Nat),∀ x∈rdF m asx i,x<i+asx.length
 | [],i,x,h=>by simp [rdF] at h
 | a::asx,i,x,h=>by
  have ih:=QqC (m:=m) asx (i+1)
  rw [rdF] at h
  rw [List.length_cons]
  split at h
  ·rcases List.mem_cons.1 h with rfl|h
   ·omega
   ·have:=ih x h;omega
  ·have:=ih x h;omega
theorem QsK (hl:l.length=ops.size):∀ (sch:QcZ) (f:Nat) (L:Array Bool) (m:Nat) (ro:Option (List Nat)),Qou ops L m→(∀ rs,ro=some rs→∀ x∈rs,x<ops.size)→QiD l (msk md ops) sch f m ro=true→Qcp md ops l sch f L ro=true:=by
 intro sch
 have lt:∀ {m x}, x∈rdF m (msk md ops) 0→x<ops.size:=fun {m x} h=>by have:=QqC _ _ x h;simpa [msk] using this
 induction sch with
 | done =>
  intro f L m ro h hr hs
  cases ro with
  | none=>simp only [QiD] at hs;simp only [Qcp];rw [Qg7 h];exact hs
  | some rs=>simp [QiD] at hs
 | take k s ih =>
  intro f L m ro h hr hs
  cases f with
  | zero=>cases ro <;> simp [QiD] at hs
  | succ f =>
   cases ro with
   | none =>
    simp only [QiD,Bool.and_eq_true] at hs
    obtain ⟨h1,h2⟩:=hs
    simp only [Qcp,Bool.and_eq_true,Bool.or_eq_true]
    rw [Qg7 h]
    split at h1
    ·cases h1
    ·rename_i j e
     have hjk:j=k:=Nat.eq_of_beq_eq_true h1
     subst hjk
     refine ⟨.inl (by rw [e];simp),ih f _ _ none (h.put (lt (m:=m) (by rw [e];simp))) (fun _ e=>by cases e) h2⟩
    ·rw [Bool.and_eq_true] at h1
     obtain ⟨h1,h3⟩:=h1
     split at h3
     ·rename_i oi ho
      have hk:k∈rdF m (msk md ops) 0:=by simpa using h1
      exact ⟨.inr ⟨h1,Qth hl h ho h3⟩,ih f _ _ none (h.put (lt hk)) (fun _ e=>by cases e) h2⟩
     ·cases h3
   | some rs =>
    simp only [QiD,Bool.and_eq_true,beq_iff_eq] at hs
    simp only [Qcp,Bool.and_eq_true,beq_iff_eq]
    exact ⟨hs.1,ih f _ _ none (h.put (hr rs rfl k (by rw [hs.1];simp))) (fun _ e=>by cases e) hs.2⟩
 | alt a b iha ihb =>
  intro f L m ro h hr hs
  cases ro with
  | none =>
   cases e:rdF m (msk md ops) 0 with
   | nil=>simp [QiD,e] at hs
   | cons i rest =>
    simp only [QiD,e,Bool.and_eq_true] at hs
    simp only [Qcp,Qg7 h,e,Bool.and_eq_true]
    exact ⟨iha f L m _ h (fun rs e' x hx=>by injection e' with e';subst e';exact lt (m:=m) (by rw [e];simp at hx;simp [hx])) hs.1,
     ihb f L m _ h (fun rs e' x hx=>by injection e' with e';subst e';exact lt (m:=m) (by rw [e];simp [hx])) hs.2⟩
  | some rs =>
   simp only [QiD] at hs
   simp only [Qcp]
   cases rs with
   | nil=>cases hs
   | cons i rest =>
    simp only [Bool.and_eq_true] at hs ⊢
    exact ⟨iha f L m _ h (fun rs e' x hx=>by injection e' with e';subst e';exact hr _ rfl x (by simp at hx;simp [hx])) hs.1,
     ihb f L m _ h (fun rs e' x hx=>by injection e' with e';subst e';exact hr _ rfl x (by simp [hx])) hs.2⟩
theorem QsJ {sch:QcZ} (h:Qyz ops l sch=true):Qcp .any ops l sch ops.size (Array.replicate ops.size false) none=true:=by
 unfold Qyz at h
 rw [Bool.and_eq_true] at h
 refine QsK (Nat.eq_of_beq_eq_true h.1) sch _ _ 0 none ⟨by simp,fun j => ?_⟩ (fun _ e=>by cases e) h.2
 rw [Nat.zero_testBit]
 by_cases hj:j<ops.size <;> simp [Array.getD,hj]
end
end Go.Proofs.YtallpjhkmcgpoaaGreat.V
end
section
namespace Go.Proofs.YtallpjhkmcgpoaaGreat.V
open Go
def QfY (ops:Array Oper):Option (Nat×Bool)→Option (Nat×Bool)→Bool
 | none,none=>true
 | some (g,b),some (t,b')=>b == b' && (ops[g]?).bind (·.dst) == some t
 | _,_=>false
def Qh3 (P:Program) (N:Nat) (ops:Array Oper) (o:Oper) (o':Op'):Bool :=
 o.dst == o'.d && (o.dst.all fun d=>decide (d<N)) && QfY ops o.guard o'.g && Qdc P o o'.i
def Qcr (P:Program) (N:Nat) (ops:Array Oper):List Oper→List Op'→Bool
 | [],[]=>true
 | o::os,o'::os'=>Qh3 P N ops o o' && Qcr P N ops os os'
 | _,_=>false
section
variable {P:Program} {D D':Nat→Prop} {A:Nat→Gh} {rs:Rs} {w:World} {cx:Cx} {w0:World} {N:Nat} {tm:Tm} {a:Act} {o:Oper} {o':Op'} {ops:Array Oper} {n:Nat}
theorem Qlz (h:SR cx w0 N D A tm rs a w) {g:Option (Nat×Bool)} (hg:QfY ops o.guard g=true) {b:Bool} (hw:Qcw tm g=some b):Region.wanted o (yielded ops a.tmps)=b:=by
 unfold Region.wanted
 cases ho:o.guard with
 | none =>
  cases g with
  | none=>simp only [Qcw,Option.some.injEq] at hw;exact hw
  | some g=>simp [QfY,ho] at hg
 | some p =>
  obtain ⟨j,want⟩:=p
  cases g with
  | none=>simp [QfY,ho] at hg
  | some g =>
   obtain ⟨t,b'⟩:=g
   simp only [QfY,ho,Bool.and_eq_true,beq_iff_eq] at hg
   obtain ⟨rfl,ht⟩:=hg
   have hv:=h.tmps t
   simp only [Qcw] at hw
   simp only [yielded,ht,Option.bind_some]
   rw [Array.getD_eq_getD_getElem?] at hv
   split at hw
   ·rename_i x e
    rw [e] at hv
    injection hw with hw;subst hw
    have hv':(a.tmps[t]?).getD undef = .bool x:=by simpa only [VR,V1,PR] using hv
    cases hq:a.tmps[t]? with
    | none=>rw [hq] at hv';cases hv'
    | some u =>
     rw [hq] at hv'
     simp only [Option.getD_some] at hv'
     subst hv'
     cases x <;> cases want <;> rfl
   ·rename_i e
    rw [e] at hv
    injection hw with hw;subst hw
    obtain ⟨c,hc,_⟩:=hv.tup
    cases hq:a.tmps[t]? with
    | none=>rfl
    | some u =>
     rw [hq] at hc
     simp only [Option.getD_some] at hc
     subst hc
     rfl
   ·cases hw
theorem SR.mono (h:SR cx w0 N D A tm rs a w) (hD:∀ r,D r→D' r):SR cx w0 N D' A tm rs a w :=
 ⟨h.heap,fun t=>(h.tmps t).mono hD (Qgn.refl _ _ _) (fun _ _ h=>h) (Qll.refl _ _ _),fun r R e=>hD r (h.ids r R e),h.size,h.defers,h.fr,h.big,fun k hk=>hD k (h.low k hk),h.kept⟩
def Qp5 (A:Nat→Gh) (rs:Rs) (w:World) (p:Pl):Prop:=∀ R Ri,rs p.r=some R→rs p.id=some Ri→QW R.xs p.i p.c=some .undef→R.own=true→Ri.own=true→p.r≠p.id →
 ∃ b o cur v,A p.r []=some (b,o)∧Blk w b false cur∧cur[o+p.i * R.sz+p.c]? = some v∧HdR w (A p.id []) false false Ri.sz Ri.xs.length v
def Qdb (D:Nat→Prop) (A:Nat→Gh) (rs:Rs) (w:World) (p:Pl):Prop:=D p.r∧D p.id∧Qp5 A rs w p∧∀ R,rs p.r=some R→QW R.xs p.i p.c=some .undef
theorem Qp5.step {p:Pl} {A':Nat→Gh} {rs':Rs} (h:Qp5 A rs w p) (h1:D p.r) (h2:D p.id) (st:Qcc cx w0 D D' A rs w A' rs' w)
 (hu:∀ R R',rs p.r=some R→rs' p.r=some R'→QW R'.xs p.i p.c=some .undef→QW R.xs p.i p.c=some .undef):Qp5 A' rs' w p:=fun R' Ri' a1 a2 a3 a4 a5 a6=>by
 obtain ⟨R,e1,_,e3,e4,e5,e6,_⟩:=st.le.2 p.r R' h1 a1
 obtain ⟨Ri,g1,_,g3,g4,g5,g6,_⟩:=st.le.2 p.id Ri' h2 a2
 obtain ⟨b,o,cur,v,k1,k2,k3,k4⟩:=h R Ri e1 g1 (hu R R' e1 a1 a3) (e4.trans a4) (g4.trans a5) a6
 exact ⟨b,o,cur,v,e6.trans k1,k2,by rw [←e3];exact k3,by rw [g6, ←g3, ←g5];exact k4⟩
theorem Qlc {sz:Nat} {ro:Bool} {xs:Els} {q:QaO} {i c:Nat} {s:Nat} {ro':Bool} {ys:Els} (ha:QaB sz ro xs (q++[(i,c)])=some (s,ro',ys)) {j k:Nat} (h:QW xs j k=some .undef):QW (Qcb xs q i c) j k=some .undef:=by
 unfold Qcb
 cases q with
 | nil =>
  obtain ⟨p,bo,s2,ws,hc,_⟩:=QaZ (by simpa using ha)
  obtain ⟨el,h1,h2⟩:=Qas hc
  have hcl:c<el.length:=(List.getElem?_eq_some_iff.1 h2).1
  simp only [QbK]
  rw [QbT h1 (by simp;omega)]
  split
  ·rename_i hin
   have:k=c:=by simp at hin;omega
   subst this;simp
  ·exact h
 | cons x q =>
  obtain ⟨a,b⟩:=x
  obtain ⟨p,bo,s2,ws,hc,_⟩:=QaZ (by simpa using ha)
  rw [Qdw hc]
  split
  ·rename_i hin
   obtain ⟨rfl,rfl⟩:=hin
   rw [hc] at h;cases h
  ·exact h
theorem QhL (hh:HR cx w A rs) (hf:Fr cx w0 w) (hi:∀ r R,rs r=some R→D r) {n:Nat} {v:AV} {x:Value} (h:PR D A rs w v x) (hid:¬D n) (hD:∀ r,D r→D' r) (hid':D' n) :
 ∃ A',Qcc cx w0 D D' A rs w A' (QbW n rs v).2.1 w∧PR D' A' (QbW n rs v).2.1 w (QbW n rs v).1 x∧(∀ p∈(QbW n rs v).2.2,Qdb D' A' (QbW n rs v).2.1 w p)∧∀ p,Qdb D A rs w p→Qdb D' A' (QbW n rs v).2.1 w p:=by
 have same:∃ A',Qcc cx w0 D D' A rs w A' rs w∧PR D' A' rs w v x∧(∀ p∈([]:List Pl),Qdb D' A' rs w p)∧∀ p,Qdb D A rs w p→Qdb D' A' rs w p :=
  ⟨A,Qcc.refl hh hf hi hD,h.mono hD (Qgn.refl _ _ _) (fun _ _ h=>h),(fun p hp=>by cases hp),fun p hp=>⟨hD _ hp.1,hD _ hp.2.1,hp.2.2.1,hp.2.2.2⟩⟩
 unfold QbW
 split
 ·rename_i r q pv sz off len
  split
  ·exact same
  ·rename_i q' i c hu
   split
   ·rename_i R sz' ys hl
    obtain ⟨hr,ha⟩:=Qb0 hl
    have hq:=Qea hu
    subst hq
    have ha':QaB R.sz (!R.own) R.xs (q'++[(i,c)])=some (sz',false,ys):=Qaj.arr_of ha
    have hrn:r≠n:=fun e=>hid (e▸hi r R hr)
    obtain ⟨A',st,_,hA⟩:=Qgt (D':=D') hh hf hi hr ha' hid hD hid'
    have hnew:up' (up' rs r (some { R with pv:=R.pv,xs:=Qcb R.xs q' i c })) n (some ⟨true,sz',0,ys⟩) r=some { R with pv:=R.pv,xs:=Qcb R.xs q' i c } := by rw [Qaz _ _ hrn,Q6]
    have keep:∀ p:Pl,D p.r→∀ R2,up' (up' rs r (some { R with pv:=R.pv,xs:=Qcb R.xs q' i c })) n (some ⟨true,sz',0,ys⟩) p.r=some R2→(∀ R0,rs p.r=some R0→QW R0.xs p.i p.c=some .undef)→QW R2.xs p.i p.c=some .undef:=fun p hDp R2 e hE=>by
     have hpn:p.r≠n:=fun e=>hid (e▸hDp)
     rw [Qaz _ _ hpn] at e
     by_cases e2:p.r=r
     ·rw [e2,Q6] at e
      injection e with e;subst e
      exact Qlc ha' (hE R (by rw [e2];exact hr))
     ·rw [Qaz _ _ e2] at e
      exact hE R2 e
    refine ⟨A',st, ?_,fun p hp => ?_,fun p ⟨p1,p2,p3,p4⟩=>⟨hD _ p1,hD _ p2,p3.step p1 p2 st (fun R0 R2 e1 e2 _=>p4 R0 e1),fun R2 e=>keep p p1 R2 e p4⟩⟩
    ·simp only [PR] at h ⊢
     obtain ⟨_,b,cap,h2,h3,h4,h5⟩:=h
     refine ⟨hid',b,cap,h2,h3,h4,fun R2 hR2=>⟨fun e=>absurd rfl e,fun s ro zs hz => ?_⟩⟩
     rw [Q6] at hR2
     injection hR2 with hR2;subst hR2
     simp only [Qaj.arr,Option.some.injEq,Prod.mk.injEq] at hz
     obtain ⟨rfl,rfl,rfl⟩:=hz
     obtain ⟨_,h6⟩:=h5 R hr
     have h7:=h6 sz' false ys ha
     rw [hA]
     have e:(A r).from' (q'++[(i,c)]) []=A r (q'++[(i,c)]):=by simp [Gh.from']
     rw [e]
     exact h7
    ·split at hp
     ·rename_i hcond
      rw [List.mem_singleton] at hp
      subst hp
      simp only [Bool.and_eq_true,List.isEmpty_iff] at hcond
      obtain ⟨rfl,hdf⟩:=hcond
      have hown:R.own=true:=QjE ha'
      obtain ⟨p,bo,s2,ws,hc,h2⟩:=QaZ (by simpa using ha')
      simp only [QaB,Option.some.injEq,Prod.mk.injEq] at h2
      obtain ⟨rfl,hro,rfl⟩:=h2
      have hp:p=false:=by
       cases p with
       | false=>rfl
       | true=>rw [hc] at hdf;cases hdf
      subst hp
      have hbo:bo=false:=by cases bo with
       | false=>rfl
       | true=>rw [Bool.or_true] at hro;cases hro
      subst hbo
      have ht:=(hh.tree r R hr).top
      have hcell:QW (Qcb R.xs [] i c) i c=some .undef:=by
       obtain ⟨el,h1,h2⟩:=Qas hc
       have hcl:c<el.length:=(List.getElem?_eq_some_iff.1 h2).1
       unfold Qcb
       simp only [QbK]
       rw [QbT h1 (by simp;omega)]
       simp
      refine ⟨hD r (hi r R hr),hid',fun R2 Ri a1 a2 a3 a4 a5 a6 => ?_,fun R2 a1 => ?_⟩
      ·simp only at a1 a2
       rw [hnew] at a1;injection a1 with a1;subst a1
       rw [Q6] at a2;injection a2 with a2;subst a2
       have h3:=ht.2
       obtain ⟨R3,e1,_,_,_,_,e6,_⟩:=st.le.2 r _ (hi r R hr) hnew
       cases eB:A r [] with
       | none=>rw [eB] at h3;simp only at h3;rw [h3] at hc;simp [QW] at hc
       | some y =>
        obtain ⟨b,o⟩:=y
        rw [eB] at h3
        obtain ⟨cur,g1,g2⟩:=h3
        obtain ⟨v,k1,_,k3⟩:=g2 i c _ hc
        rw [hown] at g1
        refine ⟨b,o,cur,v,e6.trans eB,g1,k1, ?_⟩
        simp only [QaR] at k3
        rw [hA]
        exact k3
      ·simp only at a1
       rw [hnew] at a1;injection a1 with a1;subst a1
       exact hcell
     ·cases hp
   ·exact same
 ·exact same
theorem Qgx:∀ {cs:List AV} {xs:List Value} {n:Nat} {D:Nat→Prop} {A:Nat→Gh} {rs:Rs}, HR cx w A rs→Fr cx w0 w→(∀ r R,rs r=some R→D r)→Pw (PR D A rs w) cs xs→(∀ j,j<cs.length→¬D (n+j))→∀ {D':Nat→Prop}, (∀ r,D r→D' r)→(∀ j,j<cs.length→D' (n+j)) →
 ∃ A',Qcc cx w0 D D' A rs w A' (Qbk n rs cs).2.1 w∧Pw (PR D' A' (Qbk n rs cs).2.1 w) (Qbk n rs cs).1 xs∧(∀ p∈(Qbk n rs cs).2.2,Qdb D' A' (Qbk n rs cs).2.1 w p)∧∀ p,Qdb D A rs w p→Qdb D' A' (Qbk n rs cs).2.1 w p
 | [],xs,n,D,A,rs,hh,hf,hi,h,hn,D',hD,hn'=>by
  rw [h.nil_inv]
  exact ⟨A,Qcc.refl hh hf hi hD,Pw.nil,(fun p hp=>by cases hp),fun p hp=>⟨hD _ hp.1,hD _ hp.2.1,hp.2.2.1,hp.2.2.2⟩⟩
 | c::cs,xs,n,D,A,rs,hh,hf,hi,h,hn,D',hD,hn'=>by
  obtain ⟨x,xs',rfl,h1,h2⟩:=h.head
  have h0:¬D n:=by have:=hn 0 (by simp);simpa using this
  obtain ⟨A1,st1,p1,q1,k1⟩:=QhL (D':=fun r=>D r∨r=n) hh hf hi h1 h0 (fun r hr => .inl hr) (.inr rfl)
  have h2':=h2.mono (R':=PR (fun r=>D r∨r=n) A1 (QbW n rs c).2.1 w) fun _ _ h=>h.mono (fun r hr => .inl hr) st1.le st1.big
  have hDm:∀ r,(D r∨r=n)→D' r:=fun r hr=>by
   rcases hr with hr|rfl
   ·exact hD r hr
   ·have:=hn' 0 (by simp);simpa using this
  obtain ⟨A2,st2,p2,q2,k2⟩:=Qgx (n:=n+1) (D':=D') st1.heap st1.fr st1.ids h2' (fun j hj hd=>by
   rcases hd with hd|hd
   ·exact hn (j+1) (by simpa using hj) (by rwa [show n+(j+1)=n+1+j by omega])
   ·omega) hDm (fun j hj=>by have:=hn' (j+1) (by simpa using hj);rwa [show n+(j+1)=n+1+j by omega] at this)
  refine ⟨A2,st1.trans st2 (fun r hr => .inl hr),Pw.cons ?_ p2,fun p hp => ?_,fun p hp=>k2 p (k1 p hp)⟩
  ·exact p1.mono hDm st2.le st2.big
  ·simp only [Qbk,List.mem_append] at hp
   rcases hp with hp|hp
   ·exact k2 p (q1 p hp)
   ·exact q2 p hp
theorem QhK (hh:HR cx w A rs) (hf:Fr cx w0 w) (hi:∀ r R,rs r=some R→D r) {n:Nat} {v:AV} {x:Value} (h:VR D A rs w v x) (hn:∀ j,j<16→¬D (n+j)) (hD:∀ r,D r→D' r) (hn':∀ j,j<16→D' (n+j)) {p:AV×Rs×List Pl} (he:QbR n rs v=some p) :
 ∃ A',Qcc cx w0 D D' A rs w A' p.2.1 w∧VR D' A' p.2.1 w p.1 x∧(∀ y∈p.2.2,Qdb D' A' p.2.1 w y)∧∀ y,Qdb D A rs w y→Qdb D' A' p.2.1 w y:=by
 have h0:¬D n:=by have:=hn 0 (by omega);simpa using this
 have h0':D' n:=by have:=hn' 0 (by omega);simpa using this
 have same:∃ A',Qcc cx w0 D D' A rs w A' rs w∧VR D' A' rs w v x∧(∀ y∈([]:List Pl),Qdb D' A' rs w y)∧∀ y,Qdb D A rs w y→Qdb D' A' rs w y :=
  ⟨A,Qcc.refl hh hf hi hD,h.mono hD (Qgn.refl _ _ _) (fun _ _ h=>h) (Qll.refl _ _ _),(fun p hp=>by cases hp),fun p hp=>⟨hD _ hp.1,hD _ hp.2.1,hp.2.2.1,hp.2.2.2⟩⟩
 have cell:PR D A rs w v x→∃ A',Qcc cx w0 D D' A rs w A' (QbW n rs v).2.1 w∧VR D' A' (QbW n rs v).2.1 w (QbW n rs v).1 x∧(∀ y∈(QbW n rs v).2.2,Qdb D' A' (QbW n rs v).2.1 w y)∧∀ y,Qdb D A rs w y→Qdb D' A' (QbW n rs v).2.1 w y:=fun h=>by
  obtain ⟨A',st,p,q,k⟩:=QhL (D':=D') hh hf hi h h0 hD h0'
  exact ⟨A',st,p.vr,q,k⟩
 cases v with
 | agg cs =>
  simp only [QbR] at he
  split at he
  ·rename_i hl
   injection he with he;subst he
   obtain ⟨c,h1,h2⟩:=h.agg
   obtain ⟨A',st,p,q,k⟩:=Qgx (D':=D') hh hf hi h2 (fun j hj=>hn j (by omega)) hD (fun j hj=>hn' j (by omega))
   exact ⟨A',st,by simp only [VR,V1];exact ⟨c,h1,p⟩,q,k⟩
  ·cases he
 | tup vs=>simp only [QbR,Option.some.injEq] at he;subst he;exact same
 | fn f cs=>simp only [QbR,Option.some.injEq] at he;subst he;exact same
 | bx cs c=>simp only [QbR,Option.some.injEq] at he;subst he;exact same
 | _=>simp only [QbR,Option.some.injEq] at he;subst he;exact cell (by simpa only [VR,V1] using h)
theorem SR.stepped (h:SR cx w0 N D A tm rs a w) {A':Nat→Gh} {rs':Rs} (st:Qcc cx w0 D D' A rs w A' rs' w) (hD:∀ r,D r→D' r):SR cx w0 N D' A' tm rs' a w :=
 ⟨st.heap,fun t'=>(h.tmps t').mono hD st.le st.big st.still,st.ids,h.size,h.defers,st.fr,h.big,fun k hk=>hD k (h.low k hk),fun k hk R' e=>by
  obtain ⟨R,e1,_,e3,e4,e5,e6,_⟩:=st.le.2 k R' (h.low k hk) e
  obtain ⟨R0,g1,g2,g3,g4,g5⟩:=h.kept k hk R e1
  exact ⟨R0,g1,g2.trans e3,g3.trans e4,g4.trans e5,e6.trans g5⟩⟩
theorem SR.pre (h:SR cx w0 N D A tm rs a w) {A':Nat→Gh} {rs':Rs} (st:Qcc cx w0 D D' A rs w A' rs' w) (hD:∀ r,D r→D' r) {t:Nat} {av:AV} (hv:VR D' A' rs' w av (a.tmps.getD t undef)) :
 SR cx w0 N D' A' (up' tm t av) rs' a w:=by
 have h':=h.stepped st hD
 refine ⟨h'.heap,fun t' => ?_,h'.ids,h'.size,h'.defers,h'.fr,h'.big,h'.low,h'.kept⟩
 by_cases e:t'=t
 ·subst e;rw [Q6];exact hv
 ·rw [Qaz _ _ e];exact h'.tmps t'
theorem Qgv:∀ {s:List Nat} {n:Nat} {D:Nat→Prop} {A:Nat→Gh} {tm:Tm} {rs:Rs}, SR cx w0 N D A tm rs a w→∀ {p:Tm×Rs×List Pl}, QbE n tm rs s=some p→(∀ j,j<16 * s.length→¬D (n+j)) →
 ∃ A',SR cx w0 N (fun r=>D r∨n≤r∧r<n+16 * s.length) A' p.1 p.2.1 a w∧(∀ y∈p.2.2,Qdb (fun r=>D r∨n≤r∧r<n+16 * s.length) A' p.2.1 w y)∧∀ y,Qdb D A rs w y→Qdb (fun r=>D r∨n≤r∧r<n+16 * s.length) A' p.2.1 w y
 | [],n,D,A,tm,rs,h,p,he,hn=>by
  simp only [QbE,Option.some.injEq] at he
  subst he
  exact ⟨A,h.mono fun r hr => .inl hr,fun y hy=>(by cases hy),fun y hy=>⟨.inl hy.1, .inl hy.2.1,hy.2.2.1,hy.2.2.2⟩⟩
 | t::s,n,D,A,tm,rs,h,p,he,hn=>by
  simp only [QbE,Option.bind_eq_some_iff,Option.map_eq_some_iff] at he
  obtain ⟨q,h1,q2,h2,h3⟩:=he
  subst h3
  obtain ⟨A1,st,hv,j1,j2⟩:=QhK (D':=fun r=>D r∨n≤r∧r<n+16) h.heap h.fr h.ids (h.tmps t) (fun j hj=>hn j (by simp only [List.length_cons];omega)) (fun r hr => .inl hr) (fun j hj => .inr ⟨by omega,by omega⟩) h1
  obtain ⟨A2,h3,j3,j4⟩:=Qgv (n:=n+16) (h.pre st (fun r hr => .inl hr) hv) h2 (fun j hj hd=>by
   rcases hd with hd|hd
   ·exact hn (j+16) (by simp only [List.length_cons];omega) (by rwa [show n+(j+16)=n+16+j by omega])
   ·omega)
  have hsub:∀ r,((D r∨n≤r∧r<n+16)∨n+16≤r∧r<n+16+16 * s.length)→(D r∨n≤r∧r<n+16 * (t::s).length):=fun r hr=>by
   rcases hr with (hr|hr)|hr
   ·exact .inl hr
   ·exact .inr ⟨hr.1,by simp only [List.length_cons];omega⟩
   ·exact .inr ⟨by omega,by simp only [List.length_cons];omega⟩
  refine ⟨A2,h3.mono hsub,fun y hy => ?_,fun y hy => ?_⟩
  ·rcases List.mem_append.1 hy with hy|hy
   ·have:=j4 y (j1 y hy)
    exact ⟨hsub _ this.1,hsub _ this.2.1,this.2.2.1,this.2.2.2⟩
   ·have:=j3 y hy
    exact ⟨hsub _ this.1,hsub _ this.2.1,this.2.2.1,this.2.2.2⟩
  ·have:=j4 y (j2 y hy)
   exact ⟨hsub _ this.1,hsub _ this.2.1,this.2.2.1,this.2.2.2⟩
theorem Qgu:∀ {cs:List AV} {xs:List Value} {n:Nat} {D:Nat→Prop} {A:Nat→Gh} {rs:Rs}, HR cx w A rs→Fr cx w0 w→(∀ r R,rs r=some R→D r)→Pw (VR D A rs w) cs xs→(∀ j,¬D (n+j))→∀ {p:List AV×Rs}, Qbc n rs cs=some p →
 ∃ D' A',Qcc cx w0 D D' A rs w A' p.2 w∧(∀ r,D r→D' r)∧Pw (VR D' A' p.2 w) p.1 xs
 | [],xs,n,D,A,rs,hh,hf,hi,h,hn,p,he=>by
  simp only [Qbc,Option.some.injEq] at he
  subst he
  rw [h.nil_inv]
  exact ⟨D,A,Qcc.refl hh hf hi fun _ h=>h,fun _ h=>h,Pw.nil⟩
 | c::cs,xs,n,D,A,rs,hh,hf,hi,h,hn,p,he=>by
  obtain ⟨x,xs',rfl,h1,h2⟩:=h.head
  simp only [Qbc,Option.bind_eq_some_iff,Option.map_eq_some_iff] at he
  obtain ⟨q,e1,q',e2,e3⟩:=he
  subst e3
  obtain ⟨A1,st1,p1,_⟩:=QhK (D':=fun r=>D r∨n≤r∧r<n+16) hh hf hi h1 (fun j _=>hn j) (fun r hr => .inl hr) (fun j hj => .inr ⟨by omega,by omega⟩) e1
  obtain ⟨D2,A2,st2,hD2,p2⟩:=Qgu (n:=n+16) st1.heap st1.fr st1.ids (h2.mono fun _ _ h=>h.mono (fun r hr => .inl hr) st1.le st1.big st1.still) (fun j hd=>by
   rcases hd with hd|hd
   ·exact hn (16+j) (by rwa [←Nat.add_assoc])
   ·omega) e2
  exact ⟨D2,A2,st1.trans st2 (fun r hr => .inl hr),fun r hr=>hD2 r (.inl hr),Pw.cons (p1.mono hD2 st2.le st2.big st2.still) p2⟩
theorem QhU (hh:HR cx w A rs) (hf:Fr cx w0 w) (hi:∀ r R,rs r=some R→D r) {p:Pl} (hp:Qp5 A rs w p):∃ A',Qcc cx w0 D D A rs w A' (Qbx rs p) w:=by
 have same:∃ A',Qcc cx w0 D D A rs w A' rs w:=⟨A,Qcc.refl hh hf hi fun _ h=>h⟩
 unfold Qbx
 split
 ·rename_i R Ri h1 h2
  split
  ·rename_i hcell
   split
   ·rename_i hc
    obtain ⟨c1,c2,c3⟩:=hc
    obtain ⟨b,o,cur,v,k1,k2,k3,k4⟩:=hp R Ri h1 h2 hcell c1 c2 c3
    obtain ⟨el,e1,e2⟩:=Qas hcell
    have hcl:p.c<el.length:=(List.getElem?_eq_some_iff.1 e2).1
    have hv:PR D A rs w (.slc p.id [] 0 Ri.sz 0 Ri.xs.length) v:=by
     simp only [PR]
     refine ⟨hi _ _ h2, ?_⟩
     cases eA:A p.id [] with
     | none =>
      rw [eA] at k4
      simp only [HdR] at k4
      obtain ⟨a1,x,a2⟩:=k4
      refine ⟨x,0,by rw [a2,a1],by omega,fun _=>rfl,fun R' hR'=>⟨fun e=>absurd rfl e,fun s ro ys ha => ?_⟩⟩
      rw [h2] at hR';injection hR' with hR';subst hR'
      simp only [Qaj.arr,Option.some.injEq,Prod.mk.injEq] at ha
      obtain ⟨rfl,_,rfl⟩:=ha
      exact ⟨rfl,by omega, .inl ⟨rfl,by omega⟩⟩
     | some y =>
      obtain ⟨b',o'⟩:=y
      rw [eA] at k4
      simp only [HdR] at k4
      obtain ⟨cap,a1,a2,a3⟩:=k4
      refine ⟨_,cap,a1,a2,fun e=>(by cases e),fun R' hR'=>⟨fun e=>absurd rfl e,fun s ro ys ha => ?_⟩⟩
      rw [h2] at hR';injection hR' with hR';subst hR'
      simp only [Qaj.arr,Option.some.injEq,Prod.mk.injEq] at ha
      obtain ⟨rfl,rfl,rfl⟩:=ha
      exact ⟨rfl,by omega, .inr ⟨b',o',rfl,by simp,by rw [Nat.zero_add,c2];exact a3,by omega⟩⟩
    have hsk:Qdf rs [.slc p.id [] 0 Ri.sz 0 Ri.xs.length]=some ([.deep false false Ri.sz Ri.xs],[p.id]):=by
     simp only [Qdf,Qjq,QcV,h2,Qaj.arr,Option.bind_some,Option.map_some,c2,Bool.not_true,Bool.false_eq_true,if_false,wnd,List.drop_zero,List.take_length,List.append_nil]
    obtain ⟨G,ass,hd,has,hlass⟩:=Qeu hh (Pw.cons hv Pw.nil) hsk
    have harr:QaB R.sz (!R.own) R.xs []=some (R.sz,false,R.xs):=by simp only [QaB,c1,Bool.not_true]
    have hlt:o+p.i * R.sz+p.c<cur.size:=(Array.getElem?_eq_some_iff.1 k3).1
    obtain ⟨A',st⟩:=Qg5 (D':=D) (i:=p.i) (c:=p.c) hh hf hi h1 harr k1 k2 e1 hd (by simp;omega) (by rw [←has];simp;exact c3) (by rw [←has];simp) (by simp;omega) (fun _ h=>h)
    have hw:(cur.toList.take (o+p.i * R.sz+p.c)++[v]++cur.toList.drop (o+p.i * R.sz+p.c+[v].length)).toArray=cur:=by
     apply Array.ext'
     simp only [List.length_singleton]
     have hl:o+p.i * R.sz+p.c<cur.toList.length:=by simpa using hlt
     have hv':cur.toList[o+p.i * R.sz+p.c]=v:=by
      have:cur.toList[o+p.i * R.sz+p.c]? = some v:=by rw [Array.getElem?_toList];exact k3
      rw [List.getElem?_eq_getElem hl] at this
      injection this
     rw [List.append_assoc,List.singleton_append, ←hv',List.getElem_cons_drop,List.take_append_drop]
    rw [hw,QfJ k2, ←has] at st
    refine ⟨A', ?_⟩
    have hany:Qa7 [AV.deep false false Ri.sz Ri.xs]=true:=rfl
    rw [hany,if_pos rfl] at st
    simp only [QbK] at st
    exact st
   ·exact same
  ·exact same
 ·exact same
theorem QkS (rs:Rs) (p:Pl):Qbx rs p=rs∨∃ R Ri:Qaj,rs p.r=some R∧QW R.xs p.i p.c=some .undef∧Qbx rs p=up' (kill rs [p.id]) p.r (some { R with pv:=R.pv+1,xs:=QaY R.xs p.i p.c [.deep false false Ri.sz Ri.xs] }):=by
 cases h1:rs p.r with
 | none=>left;simp only [Qbx,h1]
 | some R =>
  cases h2:rs p.id with
  | none=>left;simp only [Qbx,h1,h2]
  | some Ri =>
   cases h3:QW R.xs p.i p.c with
   | none=>left;simp only [Qbx,h1,h2,h3]
   | some v =>
    cases v with
    | undef =>
     by_cases hc:R.own=true∧Ri.own=true∧p.r≠p.id
     ·right;exact ⟨R,Ri,rfl,h3,by simp only [Qbx,h1,h2,h3];rw [if_pos hc]⟩
     ·left;simp only [Qbx,h1,h2,h3];rw [if_neg hc]
    | _=>left;simp only [Qbx,h1,h2,h3]
theorem QhV {p p2:Pl} {R R':Qaj} (h:rs p2.r=some R) (h':Qbx rs p p2.r=some R') (hc:QW R'.xs p2.i p2.c=some .undef):QW R.xs p2.i p2.c=some .undef:=by
 have same:rs p2.r=some R'→QW R.xs p2.i p2.c=some .undef:=fun e=>by rw [h] at e;injection e with e;rw [e];exact hc
 rcases QkS rs p with e0|⟨R1,Ri,h1,hcell,e0⟩
 ·rw [e0] at h';exact same h'
 ·rw [e0] at h'
  by_cases e:p2.r=p.r
  ·rw [e,Q6] at h'
   injection h' with h';subst h'
   rw [e,h1] at h;injection h with h;subst h
   obtain ⟨el,e1,e2⟩:=Qas hcell
   have hcl:p.c<el.length:=(List.getElem?_eq_some_iff.1 e2).1
   simp only at hc
   rw [QbT e1 (by simp;omega)] at hc
   split at hc
   ·rename_i hin
    have:p2.c-p.c=0:=by simp at hin;omega
    rw [this] at hc;simp at hc
   ·exact hc
  ·rw [Qaz _ _ e] at h'
   exact same (Qbn h').2
theorem Qia:∀ {pl:List Pl} {A:Nat→Gh} {rs:Rs}, SR cx w0 N D A tm rs a w→(∀ p∈pl,D p.r∧D p.id∧Qp5 A rs w p)→∃ A',SR cx w0 N D A' tm (pl.foldl Qbx rs) a w
 | [],A,rs,h,_=>⟨A,h⟩
 | p::pl,A,rs,h,hp=>by
  obtain ⟨A1,st⟩:=QhU h.heap h.fr h.ids (hp p (by simp)).2.2
  exact Qia (pl:=pl) (h.stepped st fun _ h=>h) fun p2 hp2=>by
   obtain ⟨g1,g2,g3⟩:=hp p2 (by simp [hp2])
   exact ⟨g1,g2,g3.step g1 g2 st fun R R' e1 e2 e3=>QhV e1 e2 e3⟩
theorem Qp5.call {p:Pl} {A':Nat→Gh} {rs':Rs} {w':World} (h:Qp5 A rs w p) (h1:D p.r) (h2:D p.id) (st:Qcc cx w0 D D' A rs w A' rs' w') (hk:Qyc A rs w A' rs' w') (hs:same rs rs' p=true):Qp5 A' rs' w' p:=fun R' Ri' a1 a2 a3 a4 a5 a6=>by
 obtain ⟨R,e1,_,e3,e4,e5,e6,_⟩:=st.le.2 p.r R' h1 a1
 obtain ⟨Ri,g1,_,g3,g4,g5,g6,_⟩:=st.le.2 p.id Ri' h2 a2
 have hpv:R'.pv=R.pv:=by
  simp only [same,e1,a1,beq_iff_eq] at hs
  exact hs.symm
 obtain ⟨m1,m2,m3⟩:=hk p.r R R' e1 a1 hpv
 obtain ⟨b,o,cur,v,k1,k2,k3,k4⟩:=h R Ri e1 g1 (by rw [←m1];exact a3) (e4.trans a4) (g4.trans a5) a6
 have hb:=m3 false [] b ⟨R.sz,R.xs,o,by simp only [QaB,e4,a4,Bool.not_true],k1⟩
 obtain ⟨ty,fr,b1,b2⟩:=k2
 exact ⟨b,o,cur,v,e6.trans k1,⟨ty,fr,by rw [hb];exact b1,b2⟩,by rw [←e3];exact k3,by rw [g6, ←g3, ←g5];exact k4.mono fun b _ m _=>st.big b m⟩
theorem Qh2 (h:SR cx w0 N D A tm rs a w) {call:QaM} (hctr:∀ f ds out,call f ds=some out→QbM P f=true∧Ctr P f ds out) {fresh:Nat} {s:Tm×Rs} (he:Qeo call fresh o' (tm,rs)=some s) (ho:Qh3 P N ops o o'=true)
 (hfree:∀ j,j<idw→¬D (fresh+j)) (hD:∀ r,D r→D' r) (hD':∀ j,j<idw→D' (fresh+j)) {next:Act→World→Prop} {Q:Exit→Act→World→Prop}
 (hn:∀ A' a' w',SR cx w0 N D' A' s.1 s.2 a' w'→next a' w') :
 if Region.wanted o (yielded ops a.tmps) then o.wp P a w next Q else next (a.put o.dst undef) w:=by
 simp only [Qh3,Bool.and_eq_true,beq_iff_eq,Option.all_eq_true,decide_eq_true_eq] at ho
 obtain ⟨⟨⟨h1,h2⟩,h3⟩,h4⟩:=ho
 rw [QeB] at he
 unfold opv at he
 cases hw:Qcw tm o'.g with
 | none=>rw [hw] at he;cases he
 | some b =>
  rw [hw] at he
  rw [Qlz h h3 hw]
  simp only [Option.bind_some] at he
  cases b with
  | true =>
   simp only [if_true,Option.map_eq_some_iff,Option.bind_eq_some_iff] at he ⊢
   obtain ⟨p,⟨s',hs',q,e1,e2⟩,e3⟩:=he
   subst e3;subst e2
   split at hs'
   case isFalse=>cases hs'
   rename_i hlen
   obtain ⟨A1,h1',hol,_⟩:=Qgv h hs' (fun j hj=>by rw [Nat.add_assoc];exact hfree (16+j) (by simp only [idw];omega))
   have f1:∀ j,j<16→¬(D (fresh+j)∨fresh+16≤fresh+j∧fresh+j<fresh+16+16 * o'.s.length):=fun j hj hd=>by
    rcases hd with hd|hd
    ·exact hfree j (by simp only [idw];omega) hd
    ·omega
   have f2:∀ r,(D r∨fresh+16≤r∧r<fresh+16+16 * o'.s.length)→D' r:=fun r hr=>by
    rcases hr with hr|hr
    ·exact hD r hr
    ·have:=hD' (r-fresh) (by simp only [idw];omega)
     rwa [show fresh+(r-fresh)=r by omega] at this
   have f3:∀ j,j<16→D' (fresh+j):=fun j hj=>hD' j (by simp only [idw];omega)
   cases hic:o'.i.isCall with
   | false =>
    simp only [hic,Bool.false_eq_true,if_false] at hn ⊢
    exact QuV (D':=D') h1' hctr e1 h4 h2 f1 f2 f3 fun A' v w' hs _=>hn A' _ w' (by rw [h1] at hs ⊢; exact hs)
   | true =>
    simp only [hic,if_true] at hn ⊢
    refine Qg4 (D':=D') h1' hctr e1 h4 hic h2 f1 f2 f3 fun A' v w' hs st hk => ?_
    rw [h1] at hs ⊢
    obtain ⟨A2,h5⟩:=Qia (pl:=s'.2.2.filter (same s'.2.1 q.2)) hs fun p hp=>by
     rw [List.mem_filter] at hp
     obtain ⟨g1,g2,g3,_⟩:=hol p hp.1
     exact ⟨f2 _ g1,f2 _ g2,g3.call g1 g2 st hk hp.2⟩
    exact hn A2 _ w' h5
  | false =>
   simp only [Bool.false_eq_true,if_false,Option.map_some,Option.some.injEq] at he ⊢
   subst he
   have st:=Qcc.refl (D':=D') h.heap h.fr h.ids hD
   have hu:VR D' A rs w (.tup []) undef:=by simp only [VR,undef];exact ⟨#[],rfl,Pw.nil⟩
   have:=h.step st hD h2 hu
   rw [h1] at this ⊢
   exact hn A _ w this
theorem QhF {call:QaM} (hctr:∀ f ds out,call f ds=some out→QbM P f=true∧Ctr P f ds out) {Q:Exit→Act→World→Prop} {r:Tm×Rs} {top:Nat}
 (hQ:∀ A' a' w',SR cx w0 N (· < top) A' r.1 r.2 a' w'→Q .normal a' w'):∀ {l:List Oper} {l':List Op'} {n:Nat} {A:Nat→Gh} {tm:Tm} {rs:Rs} {a:Act} {w:World},
 SR cx w0 N (· < n) A tm rs a w→n+l'.length * idw=top→Qcr P N ops l l'=true→QbB call n l' (tm,rs)=some r→wpList P ops Q l a w
 | [],[],n,A,tm,rs,a,w,h,ht,hok,he=>by
  simp only [QbB,Option.some.injEq] at he
  subst he
  simp only [List.length_nil,Nat.zero_mul,Nat.add_zero] at ht
  subst ht
  exact wpList_nil (hQ A a w h)
 | o::l,o'::l',n,A,tm,rs,a,w,h,ht,hok,he=>by
  simp only [Qcr,Bool.and_eq_true] at hok
  simp only [QbB,Option.bind_eq_some_iff] at he
  obtain ⟨s,h1,h2⟩:=he
  refine wpList_step fun K hK=>Qh2 (D':=(· < n+idw)) h hctr h1 hok.1 (fun j hj=>by simp) (fun r hr=>by show r<n+idw;have:r<n:=hr;omega) (fun j hj=>by show n+j<n+idw;omega) fun A' a' w' hs=>hK _ _ ?_
  exact QhF hctr hQ hs (by simp only [List.length_cons,Nat.add_mul,Nat.one_mul] at ht;omega) hok.2 h2
 | [],_::_,_,_,_,_,_,_,_,_,hok,_=>by simp [Qcr] at hok
 | _::_,[],_,_,_,_,_,_,_,_,hok,_=>by simp [Qcr] at hok
def Dl (n:Nat) (L:Array Bool) (r:Nat):Prop:=r<n∨∃ k,L.getD k false=true∧n+k * idw≤r∧r<n+k * idw+idw
theorem Qee:∀ {l:List Oper} {l':List Op'}, Qcr P N ops l l'=true→l.length=l'.length∧∀ {i:Nat} {o:Oper} {o':Op'}, l[i]? = some o→l'[i]? = some o'→Qh3 P N ops o o'=true
 | [],[],_=>⟨rfl,fun h=>by simp at h⟩
 | o::l,o'::l',h=>by
  simp only [Qcr,Bool.and_eq_true] at h
  obtain ⟨h1,h2⟩:=Qee h.2
  refine ⟨by simp [h1],fun {i p p'} e e' => ?_⟩
  cases i with
  | zero=>simp only [List.getElem?_cons_zero,Option.some.injEq] at e e';subst e;subst e';exact h.1
  | succ i=>exact h2 (by simpa using e) (by simpa using e')
 | [],_::_,h=>by simp [Qcr] at h
 | _::_,[],h=>by simp [Qcr] at h
theorem Qoy {call:QaM} (hctr:∀ f ds out,call f ds=some out→QbM P f=true∧Ctr P f ds out) {Q:Exit→Act→World→Prop} {r:Tm×Rs} {n:Nat} {l:List Op'} {md:Region.Mode} (hok:Qcr P N ops ops.toList l=true)
 (hQ:∀ A' a' w',SR cx w0 N (· < n+l.length * idw) A' r.1 r.2 a' w'→Q .normal a' w'):∀ {f:Nat} {L:Array Bool} {A:Nat→Gh} {s:Tm×Rs} {a:Act} {w:World},
 SR cx w0 N (Dl n L) A s.1 s.2 a w→L.size=ops.size→Qdr call n md ops l f L s r→wpAny P md ops Q f L a w:=by
 have hlen:l.length=ops.size:=(Qee hok).1.symm.trans (Array.length_toList)
 have fin:∀ {L:Array Bool} {A:Nat→Gh} {s:Tm×Rs} {a:Act} {w:World}, SR cx w0 N (Dl n L) A s.1 s.2 a w→L.size=ops.size→s=r→Q .normal a w:=by
  intro L A s a w h hL e
  subst e
  refine hQ A a w (h.mono fun x hx => ?_)
  rcases hx with hx|⟨k,hk,h1,h2⟩
  ·show x<_;omega
  ·have hk':k<ops.size:=by
    rcases Nat.lt_or_ge k L.size with h'|h'
    ·omega
    ·simp [Array.getElem?_eq_none h'] at hk
   show x<n+l.length * idw
   rw [hlen]
   simp only [idw] at *
   omega
 intro f
 induction f with
 | zero=>intro L A s a w h hL H;exact ⟨H.1,fin h hL H.2⟩
 | succ f ih =>
  intro L A s a w h hL H
  refine ⟨fun h0=>fin h hL (H.1 h0),fun i hi => ?_⟩
  obtain ⟨o',s',ho',hs',hrest⟩:=H.2 i hi
  obtain ⟨hun,o,ho,_⟩:=mem_ready.1 hi
  have hi':i<ops.size:=(Array.getElem?_eq_some_iff.1 ho).1
  have hnot:L.getD i false=false:=by
   have e:i<L.size:=by omega
   simp [e] at hun ⊢; exact hun
  have hoo:Qh3 P N ops o o'=true:=(Qee hok).2 (by rw [Array.getElem?_toList];exact ho) ho'
  have:=Qh2 (Q:=Q) (next:=wpAny P md ops Q f (L.setIfInBounds i true)) (D':=Dl n (L.setIfInBounds i true)) h hctr hs' hoo (fun j hj hD => ?_) (fun x hx => ?_) (fun j hj => ?_) fun A' a' w' hs=>ih hs (by simp [hL]) hrest
  ·unfold wpOp
   simp only [ho]
   split
   ·rename_i hw;rw [if_pos hw] at this;exact .inl this
   ·rename_i hw;rw [if_neg hw] at this;exact this
  ·rcases hD with hD|⟨k,hk,h1,h2⟩
   ·omega
   ·have:k=i:=by simp only [idw] at *; omega
    subst this
    rw [hnot] at hk
    cases hk
  ·rcases hx with hx|⟨k,hk,h1,h2⟩
   ·exact .inl hx
   ·exact .inr ⟨k,getD_set_true hk,h1,h2⟩
  ·exact .inr ⟨i,by simp [hL,hi'],by omega,by omega⟩
theorem SR.drew (h:SR cx w0 N D A tm rs a w):SR cx w0 N D A tm rs a { w with drawn:=w.drawn+1 } :=
 ⟨h.heap.world (fun _ _ h=>h) fun _ _ _ _ _ _ _=>rfl,fun t=>(h.tmps t).mono (fun _ h=>h) (Qgn.refl _ _ _) (fun _ _ h=>h) ⟨fun _ _ _=>rfl,fun r R ρ b h k => .inr ⟨r,R,ρ,h,k⟩⟩,h.ids,h.size,h.defers,⟨h.fr.base,h.fr.block,h.fr.os,h.fr.tape,h.fr.output,Nat.le_succ_of_le h.fr.drawn⟩,h.big,h.low,h.kept⟩
theorem Qt3 {call:QaM} (h:SR cx w0 N (· < n) A tm rs a w) (hctr:∀ f ds out,call f ds=some out→QbM P f=true∧Ctr P f ds out) {id:Nat} {l:List Op'} (hok:Qcr P N ops ops.toList l=true) {r:Tm×Rs} (he:QbB call n l (tm,rs)=some r)
 {Q:Exit→Act→World→Prop} (hQ:∀ A' a' w',SR cx w0 N (· < n+l.length * idw) A' r.1 r.2 a' w'→Q .normal a' w'):(Code.region id ops false).wp P Q a w :=
 wp_region_list (QhF hctr hQ h rfl hok he)
theorem Qsg {call:QaM} (h:SR cx w0 N (· < n) A tm rs a w) (hm:P.follows .mixedOrders=true) (hctr:∀ f ds out,call f ds=some out→QbM P f=true∧Ctr P f ds out) {id:Nat} {l:List Op'} (hok:Qcr P N ops ops.toList l=true)
 {sch:QcZ} (hs:Qcp .any ops l sch ops.size (Array.replicate ops.size false) none=true) {r:Tm×Rs} (he:Qcg call n l sch (tm,rs)=some r)
 {Q:Exit→Act→World→Prop} (hQ:∀ A' a' w',SR cx w0 N (· < n+l.length * idw) A' r.1 r.2 a' w'→Q .normal a' w'):(Code.region id ops true).wp P Q a w :=
 wp_region_any hm (Qoy hctr hok hQ (s:=(tm,rs)) (h.drew.mono fun x hx => .inl hx) (by simp) ((QlV he).1 hs))
end
end Go.Proofs.YtallpjhkmcgpoaaGreat.V
end
section
namespace Go.Proofs.YtallpjhkmcgpoaaGreat.V
open Go
section
variable {P:Program} {D D':Nat→Prop} {A:Nat→Gh} {rs:Rs} {w:World} {cx:Cx} {w0:World} {N:Nat} {tm:Tm} {a:Act}
theorem QgZ (f:Nat→AV):∀ (l:List Nat) (t:Nat),Qav (l.map fun t=>(t,f t)) t=f t∨Qav (l.map fun t=>(t,f t)) t = .undef
 | [],t => .inr rfl
 | x::l,t=>by
  simp only [List.map_cons,Qav]
  by_cases h:t=x
  ·subst h;exact .inl (Q6 _ _ _)
  ·rw [Qaz _ _ h];exact QgZ f l t
theorem QfA {v:Value} : VR D A rs w .undef v:=by simp only [VR,V1,PR]
theorem SR.forget (h:SR cx w0 N D A tm rs a w) (live:List Nat):SR cx w0 N D A (Qav (live.map fun t=>(t,tm t))) rs a w :=
 ⟨h.heap,fun t=>(QgZ tm live t).elim (fun e=>by rw [e];exact h.tmps t) (fun e=>by rw [e];exact QfA),h.ids,h.size,h.defers,h.fr,h.big,h.low,h.kept⟩
theorem QdU (rs:Rs):∀ (l acc:List Nat),acc.Nodup→(Qgg rs acc l).Nodup
 | [],acc,h=>h
 | r::l,acc,h=>by
  unfold Qgg
  split
  ·rename_i hc
   exact QdU rs l _ (List.nodup_append.2 ⟨h,by simp,fun a ha b hb=>by rw [List.mem_singleton] at hb;subst hb;exact fun e=>hc.2 (e▸ha)⟩)
  ·exact QdU rs l _ h
theorem QiS (m:Nat) (live:List Nat) (st:St):(QkW m live st).Nodup:=QdU _ _ _ List.nodup_range
theorem QdL {l:List Nat} {r:Nat} (h:r∈l):l[l.idxOf r]? = some r:=by
 rw [List.getElem?_eq_getElem (List.idxOf_lt_length_of_mem h),List.getElem_idxOf]
section
variable {od:List Nat}
def rsN (rs:Rs) (od:List Nat):Rs:=QsN (od.map fun r=>(rs r).map fun R => { R with pv:=0 })
def AN (A:Nat→Gh) (od:List Nat):Nat→Gh:=fun k=>match od[k]? with
 | some r=>A r
 | none=>fun _=>none
theorem QcM {k:Nat} {R':Qaj} (h:rsN rs od k=some R'):∃ r R,od[k]? = some r∧rs r=some R∧R' = { R with pv:=0 } ∧ AN A od k=A r:=by
 simp only [rsN,QsN,List.getElem?_map] at h
 cases e:od[k]? with
 | none=>rw [e] at h;simp at h
 | some r =>
  rw [e] at h
  simp only [Option.map_some,Option.join_some,Option.map_eq_some_iff] at h
  obtain ⟨R,h1,h2⟩:=h
  exact ⟨r,R,rfl,h1,h2.symm,by simp only [AN,e]⟩
theorem QkA {R:Qaj} {q:QaO} {pv:Nat} (hq:q≠[]→pv=R.pv):({ R with pv:=0 } : Qaj).arr q 0=R.arr q pv:=by
 cases q with
 | nil=>rfl
 | cons p q=>simp only [Qaj.arr,hq (by simp),if_true]
theorem Qic {r:Nat} {q:QaO} {pv:Nat} (h:Qyg rs r q pv=true) {R:Qaj} (hr:rs r=some R):q≠[]→pv=R.pv:=by
 intro hq
 simp only [Qyg,hr] at h
 cases q with
 | nil=>exact absurd rfl hq
 | cons p q=>simpa using h
theorem PR.ren {av:AV} {v:Value} (h:PR D A rs w av v):PR (· < od.length) (AN A od) (rsN rs od) w (Ql7 rs od av) v:=by
 have at':∀ {r:Nat}, r∈od→∀ R',rsN rs od (od.idxOf r)=some R'→∃ R,rs r=some R∧R' = { R with pv:=0 } ∧ AN A od (od.idxOf r)=A r:=fun hr R' h'=>by
  obtain ⟨r',R,h1,h2,h3,h4⟩:=QcM (A:=A) h'
  rw [QdL hr] at h1
  injection h1 with h1;subst h1
  exact ⟨R,h2,h3,h4⟩
 cases av with
 | slc r q pv sz off len =>
  simp only [Ql7]
  split
  ·rename_i hc
   simp only [PR] at h ⊢
   obtain ⟨h1,a,cap,h2,h3,h4,h5⟩:=h
   refine ⟨List.idxOf_lt_length_of_mem hc.1,a,cap,h2,h3,h4,fun R' hR' => ?_⟩
   obtain ⟨R,e1,e2,e3⟩:=at' hc.1 R' hR'
   obtain ⟨h6,h7⟩:=h5 R e1
   subst e2
   refine ⟨fun _=>Nat.zero_le _,fun s ro ys ha => ?_⟩
   rw [QkA (Qic hc.2 e1)] at ha
   rw [e3]
   exact h7 s ro ys ha
  ·simp only [PR]
 | ptr r q pv i c =>
  simp only [Ql7]
  split
  ·rename_i hc
   simp only [PR] at h ⊢
   obtain ⟨h1,a,h2,h5⟩:=h
   refine ⟨List.idxOf_lt_length_of_mem hc.1,a,h2,fun R' hR' => ?_⟩
   obtain ⟨R,e1,e2,e3⟩:=at' hc.1 R' hR'
   obtain ⟨h6,h7⟩:=h5 R e1
   subst e2
   refine ⟨fun _=>Nat.zero_le _,fun s ro ys ha => ?_⟩
   rw [QkA (Qic hc.2 e1)] at ha
   rw [e3]
   exact h7 s ro ys ha
  ·simp only [PR]
 | cv k r off sz n =>
  simp only [Ql7]
  split
  ·rename_i hc
   simp only [PR] at h ⊢
   obtain ⟨h0,cap,h1,h2⟩:=h
   refine ⟨List.idxOf_lt_length_of_mem hc,cap,h1,fun R' hR' => ?_⟩
   simp only [rsN,QsN,List.getElem?_map,QdL hc,Option.map_some,Option.join_some,Option.map_eq_some_iff] at hR'
   obtain ⟨R,e1,rfl⟩:=hR'
   simp only [AN,QdL hc]
   exact h2 R e1
  ·simp only [PR]
 | vp x c =>
  simp only [Ql7]
  split
  ·rename_i hc
   simp only [PR] at h ⊢
   obtain ⟨h0,h1,b,o,h2,h3⟩:=h
   refine ⟨List.idxOf_lt_length_of_mem hc, ?_,b,o,by simp only [AN,QdL hc];exact h2,h3⟩
   simp only [rsN,QsN,List.getElem?_map,QdL hc,Option.map_some,h1,Option.map_none,Option.join_some]
  ·simp only [PR]
 | _=>exact h
theorem Pw.ren {cs:List AV} {vs:List Value} (h:Pw (PR D A rs w) cs vs):Pw (PR (· < od.length) (AN A od) (rsN rs od) w) (cs.map (Ql7 rs od)) vs:=by
 refine ⟨by rw [List.length_map];exact h.1,fun i x hx => ?_⟩
 rw [List.getElem?_map] at hx
 simp only [Option.map_eq_some_iff] at hx
 obtain ⟨x',h1,h2⟩:=hx
 subst h2
 obtain ⟨y,h3,h4⟩:=h.2 i x' h1
 exact ⟨y,h3,h4.ren⟩
theorem VR.ren {av:AV} {v:Value} (h:VR D A rs w av v):VR (· < od.length) (AN A od) (rsN rs od) w (QoW rs od av) v:=by
 have cell:∀ {av:AV}, PR D A rs w av v→VR (· < od.length) (AN A od) (rsN rs od) w (Ql7 rs od av) v:=fun h=>(PR.ren h).vr
 cases av with
 | agg cs=>simp only [VR,V1,QoW] at h ⊢; obtain ⟨a,h1,h2⟩:=h;exact ⟨a,h1,h2.ren⟩
 | fn f cs=>simp only [VR,V1,QoW] at h ⊢; obtain ⟨a,h1,h2⟩:=h;exact ⟨a,h1,h2.ren⟩
 | tup vs=>simp only [QoW];exact QfA
 | bx cs c =>
  simp only [VR,QoW] at h ⊢
  obtain ⟨b,cur,ty,h1,h2,h3,h4⟩:=h
  refine ⟨b,cur,ty,h1,h2,h3.ren,fun k R' ρ e hk => ?_⟩
  obtain ⟨r,R,g1,g2,g3,g4⟩:=QcM (A:=A) e
  subst g3;rw [g4] at hk
  exact h4 r R ρ g2 hk
 | _=>simp only [QoW];exact cell (by simpa only [VR,V1] using h)
theorem HR.ren (hh:HR cx w A rs) (hn:od.Nodup):HR cx w (AN A od) (rsN rs od):=by
 refine ⟨fun k R' h => ?_,fun k R' ρ b h hk => ?_,fun k R' ρ b h hk => ?_,fun k R' ρ k' R'' ρ' b h hk h' hk' => ?_⟩
 ·obtain ⟨r,R,h1,h2,h3,h4⟩:=QcM (A:=A) h
  subst h3;rw [h4];exact hh.tree r R h2
 ·obtain ⟨r,R,h1,h2,h3,h4⟩:=QcM (A:=A) h
  subst h3;rw [h4] at hk;exact hh.own r R ρ b h2 hk
 ·obtain ⟨r,R,h1,h2,h3,h4⟩:=QcM (A:=A) h
  subst h3;rw [h4] at hk;exact hh.sta r R ρ b h2 hk
 ·obtain ⟨r,R,h1,h2,h3,h4⟩:=QcM (A:=A) h
  obtain ⟨r',R2,g1,g2,g3,g4⟩:=QcM (A:=A) h'
  subst h3;subst g3;rw [h4] at hk;rw [g4] at hk'
  obtain ⟨e,e'⟩:=hh.inj r R ρ r' R2 ρ' b h2 hk g2 hk'
  subst e
  have hk1:=(List.getElem?_eq_some_iff.1 h1)
  have hk2:=(List.getElem?_eq_some_iff.1 g1)
  exact ⟨(List.getElem_inj hn).1 (hk1.2.trans hk2.2.symm),e'⟩
end
theorem Qfb (rs:Rs):∀ (l acc:List Nat) {k r:Nat}, acc[k]? = some r→(Qgg rs acc l)[k]? = some r
 | [],acc,k,r,h=>h
 | x::l,acc,k,r,h=>by
  unfold Qgg
  split
  ·exact Qfb rs l _ (by rw [List.getElem?_append_left (List.getElem?_eq_some_iff.1 h).1];exact h)
  ·exact Qfb rs l _ h
theorem Qh0 {m k:Nat} (live:List Nat) (st:St) (h:k<m):(QkW m live st)[k]? = some k:=Qfb _ _ _ (by rw [List.getElem?_range h])
theorem SR.canon {st:St} (h:SR cx w0 N D A st.tm st.rs a w) (m:Nat) (live:List Nat) (hm:cx.m0≤m):SR cx w0 N (· < (canon m live st).nx) (AN A (QkW m live st)) (canon m live st).tm (canon m live st).rs a w:=by
 refine ⟨h.heap.ren (QiS m live st),fun t => ?_,fun r R e => ?_,h.size,h.defers,h.fr,h.big,fun k hk => ?_,fun k hk R' e => ?_⟩
 ·simp only [V.canon]
  rcases QgZ (fun t=>QoW st.rs (QkW m live st) (st.tm t)) live t with e|e <;> rw [e]
  ·exact (h.tmps t).ren
  ·exact QfA
 ·obtain ⟨r',R',h1,h2,h3,h4⟩:=QcM (A:=A) e
  exact (List.getElem?_eq_some_iff.1 h1).1
 ·exact (List.getElem?_eq_some_iff.1 (Qh0 live st (Nat.lt_of_lt_of_le hk hm))).1
 ·obtain ⟨r,R,h1,h2,h3,h4⟩:=QcM (A:=A) e
  rw [Qh0 live st (Nat.lt_of_lt_of_le hk hm)] at h1
  injection h1 with h1;subst h1;subst h3;rw [h4]
  exact h.kept k hk R h2
end
end Go.Proofs.YtallpjhkmcgpoaaGreat.V
end
section
namespace Go.Proofs.YtallpjhkmcgpoaaGreat.V
open Go
def cOk (P:Program) (N M:Nat):Code→C→Bool
 | c, .kp _ C=>cOk P N M c C
 | c, .jn m _ C=>decide (M≤m) && cOk P N M c C
 | .skip, .skip=>true
 | .region _ ops d, .ops l => !d && Qcr P N ops ops.toList l
 | .region _ ops d, .draw sch l=>d && (Qcr P N ops ops.toList l && Qyz ops l sch)
 | .seq a b, .seq a' b'=>cOk P N M a a' && cOk P N M b b'
 | .cond x a b, .cond x' a' b'=>xOk x x' && (cOk P N M a a' && cOk P N M b b')
 | .block i c, .blk j c'=>i == j && cOk P N M c c'
 | .loop c, .loop m _ c'=>decide (M≤m) && cOk P N M c c'
 | .exit i, .exit j=>i == j
 | .ret, .ret=>true
 | _,_=>false
def Ex.to:Ex→Exit
 | .normal => .normal
 | .exit i => .exit i
 | .ret => .ret
def WpL (P:Program) (c:Code) (Q:Exit→Act→World→Prop) (a:Act) (w:World):Prop :=
 ∀ (b:Frame) (k:List Item) (cs:List Frame),∃ e a' w',Q e a' w'∧Arrives P (lone (b.at a (.code c :: .inLoop c::k)) cs w) b k cs e a' w'
theorem WpL.loop {P:Program} {c:Code} {Q:Exit→Act→World→Prop} {a:Act} {w:World} (h:WpL P c Q a w):(Code.loop c).wp P Q a w:=fun b k cs =>
 let ⟨e,a',w',hq,harr⟩:=h b k cs
 ⟨e,a',w',hq, .of_steps (.one step_loop) harr⟩
theorem WpL.round {P:Program} {c:Code} {Q:Exit→Act→World→Prop} {a:Act} {w:World} (h:c.wp P (Exit.then (WpL P c Q) Q) a w):WpL P c Q a w:=by
 intro b k cs
 obtain ⟨e,a₁,w₁,hq,harr⟩:=h b (.inLoop c::k) cs
 cases e with
 | normal =>
  obtain ⟨e₂,a₂,w₂,hq₂,harr₂⟩:=hq b k cs
  exact ⟨e₂,a₂,w₂,hq₂, .of_steps (Steps.trans harr (.one step_inLoop)) harr₂⟩
 | exit id=>exact ⟨_,a₁,w₁,hq, .pass (x := .inLoop c) rfl (fun _ _ => .inl (by simp)) harr⟩
 | goto l=>exact ⟨_,a₁,w₁,hq, .pass (x := .inLoop c) rfl (fun _ _ => .inl (by simp)) harr⟩
 | ret=>exact ⟨_,a₁,w₁,hq, .pass (x := .inLoop c) rfl (fun _ _ => .inl (by simp)) harr⟩
 | panic ch=>exact ⟨_,a₁,w₁,hq, .pass (x := .inLoop c) rfl (fun _ _ => .inl (by simp)) harr⟩
 | outgrown=>exact ⟨_,a₁,w₁,hq, .pass (x := .inLoop c) rfl (fun _ _ => .inl (by simp)) harr⟩
section
variable {P:Program} {cx:Cx} {w0:World} {N M:Nat}
def At (cx:Cx) (w0:World) (N:Nat) (st:St) (a:Act) (w:World):Prop:=∃ A,SR cx w0 N (· < st.nx) A st.tm st.rs a w
def KOk (cx:Cx) (w0:World) (N:Nat) (K:Qgh) (out:Out) (Q:Exit→Act→World→Prop):Prop:=∀ e st a w,K e st=some out→At cx w0 N st a w→Q e.to a w
def Qfc (P:Program) (cx:Cx) (w0:World) (N M:Nat) (again:C→St→Qgh→Option Out):Prop :=
 ∀ m live c C st K out Q a w,M≤m→cOk P N M c C=true→again (.loop m live C) st K=some out→At cx w0 N st a w→KOk cx w0 N K out Q→WpL P c Q a w
theorem Qii (h0:cx.m0≤M) (hm:P.follows .mixedOrders=true) {call:QaM} (hctr:∀ f ds out,call f ds=some out→QbM P f=true∧Ctr P f ds out) {again:C→St→Qgh→Option Out} (hag:Qfc P cx w0 N M again) :
 ∀ (C:C) (c:Code) (st:St) (K:Qgh) (out:Out) (Q:Exit→Act→World→Prop) (a:Act) (w:World),cOk P N M c C=true→evC call again C st K=some out→At cx w0 N st a w→KOk cx w0 N K out Q→c.wp P Q a w:=by
 intro C
 induction C with
 | skip =>
  intro c st K out Q a w hc he hs hK
  cases c <;> simp only [cOk,Bool.false_eq_true] at hc
  exact wp_skip (hK .normal st a w he hs)
 | ops l =>
  intro c st K out Q a w hc he hs hK
  cases c <;> simp only [cOk,Bool.false_eq_true] at hc
  rename_i id ops d
  simp only [Bool.and_eq_true,Bool.not_eq_true'] at hc
  obtain ⟨rfl,hc⟩:=hc
  simp only [evC,Option.bind_eq_some_iff] at he
  obtain ⟨s,h1,h2⟩:=he
  obtain ⟨A,hs⟩:=hs
  exact Qt3 hs hctr hc h1 fun A' a' w' hs'=>hK .normal _ a' w' h2 ⟨A',hs'⟩
 | draw sch l =>
  intro c st K out Q a w hc he hs hK
  cases c <;> simp only [cOk,Bool.false_eq_true] at hc
  rename_i id ops d
  simp only [Bool.and_eq_true] at hc
  obtain ⟨rfl,hc,hsch⟩:=hc
  simp only [evC,Option.bind_eq_some_iff] at he
  obtain ⟨s,h1,h2⟩:=he
  obtain ⟨A,hs⟩:=hs
  exact Qsg hs hm hctr hc (QsJ hsch) h1 fun A' a' w' hs'=>hK .normal _ a' w' h2 ⟨A',hs'⟩
 | seq x y ihx ihy =>
  intro c st K out Q a w hc he hs hK
  cases c <;> simp only [cOk,Bool.false_eq_true] at hc
  simp only [Bool.and_eq_true] at hc
  simp only [evC] at he
  refine wp_seq (ihx _ st _ out _ a w hc.1 he hs fun e st' a' w' he' hs' => ?_)
  cases e with
  | normal=>exact ihy _ st' K out Q a' w' hc.2 he' hs' hK
  | exit i=>exact hK (.exit i) st' a' w' he' hs'
  | ret=>exact hK .ret st' a' w' he' hs'
 | cond x y z ihy ihz =>
  intro c st K out Q a w hc he hs hK
  cases c <;> simp only [cOk,Bool.false_eq_true] at hc
  rename_i x' y' z'
  simp only [Bool.and_eq_true] at hc
  obtain ⟨hx,hc1,hc2⟩:=hc
  simp only [evC] at he
  obtain ⟨A,hs'⟩:=id hs
  have hv:=hs'.tr.ev hx
  split at he
  ·rename_i t e
   rw [e] at hv
   have hv':a.eval x' = .bool t:=by simpa only [VR,V1,PR] using hv
   refine wp_cond hv' ?_
   cases t with
   | true=>exact ihy _ st K out Q a w hc1 (by simpa using he) hs hK
   | false=>exact ihz _ st K out Q a w hc2 (by simpa using he) hs hK
  ·rename_i e
   rw [e] at hv
   have hv':∃ t,a.eval x' = .bool t:=by simpa only [VR,V1,PR] using hv
   obtain ⟨t,ht⟩:=hv'
   simp only [Option.bind_eq_some_iff] at he
   obtain ⟨r,h1,h2⟩:=he
   split at h2
   ·rename_i h3
    injection h2 with h2;subst h2
    refine wp_cond ht ?_
    cases t with
    | true=>exact ihy _ st K r Q a w hc1 h1 hs hK
    | false=>exact ihz _ st K r Q a w hc2 h3 hs hK
   ·cases h2
  ·rename_i r1 off sz n e
   rw [e] at hv
   have hv':PR (fun r=>r<st.nx) A st.rs w (.cv 1 r1 off sz n) (a.eval x'):=by simpa only [VR,V1] using hv
   obtain ⟨g0,cap,g1,g2⟩:=hv'
   simp only at g1
   simp only [Option.bind_eq_some_iff] at he
   obtain ⟨r,h1,h2⟩:=he
   split at h2
   ·rename_i h3
    injection h2 with h2;subst h2
    refine wp_cond g1 ?_
    have htok:∀ k2,PR (fun r=>r<st.nx) A st.rs w (.cv k2 r1 off sz n) (a.eval x')→At cx w0 N (tok x k2 r1 off sz n st) a w:=fun k2 hk2=>by
     refine ⟨A, ?_⟩
     cases x with
     | k v=>exact hs'
     | t c =>
      have hxt:x' = .tmp c:=by
       cases x' <;> simp [xOk] at hx
       rw [hx]
      subst hxt
      refine ⟨hs'.heap,fun t' => ?_,hs'.ids,hs'.size,hs'.defers,hs'.fr,hs'.big,hs'.low,hs'.kept⟩
      by_cases e2:t'=c
      ·subst e2
       simp only [tok,Q6,VR,V1]
       exact hk2
      ·simp only [tok]
       rw [Qaz _ _ e2]
       exact hs'.tmps t'
    cases ht:decide (cap<n) with
    | true=>exact ihy _ _ K r Q a w hc1 h1 (htok 3 ⟨g0,cap,⟨by rw [g1,ht],by simpa using ht⟩,g2⟩) hK
    | false=>exact ihz _ _ K r Q a w hc2 h3 (htok 2 ⟨g0,cap,⟨by rw [g1,ht],by simpa using ht⟩,g2⟩) hK
   ·cases h2
  ·cases he
 | blk id x ih =>
  intro c st K out Q a w hc he hs hK
  cases c <;> simp only [cOk,Bool.false_eq_true] at hc
  simp only [Bool.and_eq_true,beq_iff_eq] at hc
  obtain ⟨rfl,hc⟩:=hc
  simp only [evC] at he
  refine wp_block (ih _ st _ out _ a w hc he hs fun e st' a' w' he' hs' => ?_)
  cases e with
  | normal=>exact hK .normal st' a' w' he' hs'
  | exit i =>
   simp only [Ex.to,Exit.inBlock] at he' ⊢
   split at he' <;> rename_i h
   ·rw [if_pos h];exact hK .normal st' a' w' he' hs'
   ·rw [if_neg h];exact hK (.exit i) st' a' w' he' hs'
  | ret=>exact hK .ret st' a' w' he' hs'
 | loop m live x ih =>
  intro c st K out Q a w hc he hs hK
  cases c <;> simp only [cOk,Bool.false_eq_true] at hc
  rename_i body
  simp only [Bool.and_eq_true,decide_eq_true_eq] at hc
  obtain ⟨hM,hc⟩:=hc
  simp only [evC] at he
  obtain ⟨A,hs⟩:=hs
  refine (WpL.round (ih _ (canon m live st) _ out _ a w hc he ⟨_,hs.canon m live (Nat.le_trans h0 hM)⟩ fun e st' a' w' he' hs' => ?_)).loop
  cases e with
  | normal=>exact hag m live _ x st' K out Q a' w' hM hc he' hs' hK
  | exit i=>exact hK (.exit i) st' a' w' he' hs'
  | ret=>exact hK .ret st' a' w' he' hs'
 | exit i =>
  intro c st K out Q a w hc he hs hK
  cases c <;> simp only [cOk,Bool.false_eq_true] at hc
  simp only [beq_iff_eq] at hc
  subst hc
  exact wp_exit (hK (.exit _) st a w he hs)
 | ret =>
  intro c st K out Q a w hc he hs hK
  cases c <;> simp only [cOk,Bool.false_eq_true] at hc
  exact wp_ret (hK .ret st a w he hs)
 | kp live x ih =>
  intro c st K out Q a w hc he hs hK
  have hc':cOk P N M c x=true:=by cases c <;> simpa only [cOk] using hc
  simp only [evC] at he
  refine ih c st _ out Q a w hc' he hs fun e st' a' w' he' hs' => ?_
  cases e with
  | normal=>obtain ⟨A,hs'⟩:=hs';exact hK .normal _ a' w' he' ⟨A,hs'.forget live⟩
  | exit i=>exact hK (.exit i) st' a' w' he' hs'
  | ret=>exact hK .ret st' a' w' he' hs'
 | jn m live x ih =>
  intro c st K out Q a w hc he hs hK
  have hc':M≤m∧cOk P N M c x=true:=by cases c <;> simpa only [cOk,Bool.and_eq_true,decide_eq_true_eq] using hc
  simp only [evC] at he
  refine ih c st _ out Q a w hc'.2 he hs fun e st' a' w' he' hs' => ?_
  cases e with
  | normal=>obtain ⟨A,hs'⟩:=hs';exact hK .normal _ a' w' he' ⟨_,hs'.canon m live (Nat.le_trans h0 hc'.1)⟩
  | exit i=>exact hK (.exit i) st' a' w' he' hs'
  | ret=>exact hK .ret st' a' w' he' hs'
theorem QkZ (h0:cx.m0≤M) (hm:P.follows .mixedOrders=true) {call:QaM} (hctr:∀ f ds out,call f ds=some out→QbM P f=true∧Ctr P f ds out) {again:C→St→Qgh→Option Out} (hag:Qfc P cx w0 N M again) :
 Qfc P cx w0 N M (evC call again):=by
 intro m live c C st K out Q a w hM hc he hs hK
 simp only [evC] at he
 obtain ⟨A,hs⟩:=hs
 refine WpL.round (Qii h0 hm hctr hag C c (canon m live st) _ out _ a w hc he ⟨_,hs.canon m live (Nat.le_trans h0 hM)⟩ fun e st' a' w' he' hs' => ?_)
 cases e with
 | normal=>exact hag m live _ C st' K out Q a' w' hM hc he' hs' hK
 | exit i=>exact hK (.exit i) st' a' w' he' hs'
 | ret=>exact hK .ret st' a' w' he' hs'
end
end Go.Proofs.YtallpjhkmcgpoaaGreat.V
end
section
namespace Go.Proofs.YtallpjhkmcgpoaaGreat.V
open Go
def QtW (tmps:Array Value):ResultVar→Sem Value
 | .tmp t=>pure (tmps.getD t undef)
 | .cell a t=>do loadVar t (←asAddr (tmps.getD a undef))
theorem QkR (fn:Func) (tmps:Array Value):results fn tmps=(do
 let vs ←fn.results.mapM (QtW tmps)
 pure (if h:vs.size=1 then vs[0] else .tuple vs)):=by
 unfold results
 congr 1
section
variable {P:Program} {D D':Nat→Prop} {A:Nat→Gh} {rs:Rs} {w:World} {cx:Cx} {w0:World} {N:Nat} {tm:Tm} {a:Act}
theorem QiN {fn:Func} {tmps:Array Value} {l:List ResultVar} (h:fn.results=l.toArray) (hl:l.length≤5) {vs:List Value} (hv:Pw (fun r v=>(QtW tmps r).run P w = .ok v w) l vs) :
 (results fn tmps).run P w = .ok (QdH vs) w:=by
 rw [QkR,h]
 match l,hl,hv with
 | [],_,hv=>rw [hv.nil_inv];simp [QdH]
 | [r],_,hv =>
  obtain ⟨v,vs',rfl,h1,h2⟩:=hv.head
  rw [h2.nil_inv]
  simp [QdH,h1]
 | [r,r'],_,hv =>
  obtain ⟨v,vs',rfl,h1,h2⟩:=hv.head
  obtain ⟨v',vs',rfl,h3,h4⟩:=h2.head
  rw [h4.nil_inv]
  simp [QdH,h1,h3]
 | [r,r',r''],_,hv =>
  obtain ⟨v,vs',rfl,h1,h2⟩:=hv.head
  obtain ⟨v',vs',rfl,h3,h4⟩:=h2.head
  obtain ⟨v'',vs',rfl,h5,h6⟩:=h4.head
  rw [h6.nil_inv]
  simp [QdH,h1,h3,h5]
 | [r,r',r'',r3],_,hv =>
  obtain ⟨v,vs',rfl,h1,h2⟩:=hv.head
  obtain ⟨v',vs',rfl,h3,h4⟩:=h2.head
  obtain ⟨v'',vs',rfl,h5,h6⟩:=h4.head
  obtain ⟨v3,vs',rfl,h7,h8⟩:=h6.head
  rw [h8.nil_inv]
  simp [QdH,h1,h3,h5,h7]
 | [r,r',r'',r3,r4],_,hv =>
  obtain ⟨v,vs',rfl,h1,h2⟩:=hv.head
  obtain ⟨v',vs',rfl,h3,h4⟩:=h2.head
  obtain ⟨v'',vs',rfl,h5,h6⟩:=h4.head
  obtain ⟨v3,vs',rfl,h7,h8⟩:=h6.head
  obtain ⟨v4,vs',rfl,h9,h10⟩:=h8.head
  rw [h10.nil_inv]
  simp [QdH,h1,h3,h5,h7,h9]
 | _::_::_::_::_::_::_,h,_=>simp at h
def Ql1 (P:Program):List ResultVar→List Res→Bool
 | [],[]=>true
 | .tmp t::rs, .t n::rs'=>t == n && Ql1 P rs rs'
 | .cell a t::rs, .cell a' n::rs'=>a == a' && QcF P t n && Ql1 P rs rs'
 | _,_=>false
theorem Qzg {av:AV} {v:Value} (h:VR D A rs w av v) (ht:∀ vs,av ≠ .tup vs) (hb:∀ cs c,av ≠ .bx cs c):V1 D A rs w av v:=by
 unfold VR at h
 split at h
 ·exact absurd rfl (ht _)
 ·exact absurd rfl (hb _ _)
 ·exact h
theorem QeW (h:SR cx w0 N D A tm rs a w) {nx:Nat} : ∀ {l:List ResultVar} {l':List Res} {vs:List AV}, Ql1 P l l'=true→QbU ⟨tm,rs,nx⟩ l'=some vs →
 ∃ vals,Pw (fun r v=>(QtW a.tmps r).run P w = .ok v w) l vals∧Pw (VR D A rs w) vs vals
 | [],[],vs,hl,hv=>by
  simp only [QbU,Option.some.injEq] at hv
  subst hv
  exact ⟨[],Pw.nil,Pw.nil⟩
 | .tmp t::l, .t n::l',vs,hl,hv=>by
  simp only [Ql1,Bool.and_eq_true,beq_iff_eq] at hl
  obtain ⟨rfl,hl⟩:=hl
  simp only [QbU,QjA,Option.bind_some,Option.map_eq_some_iff] at hv
  obtain ⟨vs',h1,h2⟩:=hv
  subst h2
  obtain ⟨vals,g1,g2⟩:=QeW h hl h1
  exact ⟨a.tmps.getD t undef::vals,Pw.cons (by simp only [QtW,Sem.run_pure]) g1,Pw.cons (h.tmps t) g2⟩
 | .cell b t::l, .cell b' n::l',vs,hl,hv=>by
  simp only [Ql1,Bool.and_eq_true,beq_iff_eq] at hl
  obtain ⟨⟨rfl,hp⟩,hl⟩:=hl
  simp only [QbU,QjA,Option.bind_eq_some_iff,Option.map_eq_some_iff] at hv
  obtain ⟨av,⟨p,h1,h2⟩,vs',h3,h4⟩:=hv
  subst h4;subst h2
  obtain ⟨vals,g1,g2⟩:=QeW h hl h3
  simp only [evI] at h1
  split at h1
  ·rename_i r q pv i c ex
   simp only [Option.bind_eq_some_iff,Option.map_eq_some_iff] at h1
   obtain ⟨⟨R,s,ro,xs⟩,hl',el,hel,v,hval,e2⟩:=h1
   subst e2
   obtain ⟨v',ad,k1,k2,k3⟩:=Qh5 (x := .tmp b) h.tr h.heap (by simp [xOk]) hp ex hl' hel hval
   refine ⟨v'::vals,Pw.cons ?_ g1,Pw.cons k3 g2⟩
   have k1':a.tmps.getD b undef = .pointer (some ad):=k1
   simp only [QtW,k1',asAddr,Sem.run_bind,Sem.run_pure,Result.andThen_ok,k2]
  ·rename_i ex
   simp only [Option.map_eq_some_iff] at h1
   obtain ⟨v,hval,e2⟩:=h1
   subst e2
   obtain ⟨v',ad,k1,k2,k3⟩:=QmC (x := .tmp b) h.tr (by simp [xOk]) hp ex hval
   refine ⟨v'::vals,Pw.cons ?_ g1,Pw.cons k3 g2⟩
   have k1':a.tmps.getD b undef = .pointer (some ad):=k1
   simp only [QtW,k1',asAddr,Sem.run_bind,Sem.run_pure,Result.andThen_ok,k2]
  ·cases h1
 | [],_::_,_,hl,_=>by simp [Ql1] at hl
 | .tmp _::_,[],_,hl,_=>by simp [Ql1] at hl
 | .tmp _::_, .cell _ _::_,_,hl,_=>by simp [Ql1] at hl
 | .cell _ _::_,[],_,hl,_=>by simp [Ql1] at hl
 | .cell _ _::_, .t _::_,_,hl,_=>by simp [Ql1] at hl
theorem QjG:∀ {cs:List AV} {vs:List Value} {o:List AV×List Nat}, Qfp rs cs=some o→Pw (VR D A rs w) cs vs→Pw (V1 D A rs w) cs vs
 | [],vs,o,_,h=>by rw [h.nil_inv];exact Pw.nil
 | c::cs,vs,o,ho,h=>by
  obtain ⟨v,vs',rfl,h1,h2⟩:=h.head
  simp only [Qfp,Option.bind_eq_some_iff,Option.map_eq_some_iff] at ho
  obtain ⟨p,e1,p',e2,_⟩:=ho
  refine Pw.cons (Qzg h1 (fun ws e => ?_) (fun ws c e => ?_)) (QjG e2 h2) <;> (subst e;simp [Qln,QhE] at e1)
end
end Go.Proofs.YtallpjhkmcgpoaaGreat.V
end
section
namespace Go.Proofs.YtallpjhkmcgpoaaGreat.V
open Go
def Qyj (P:Program) (f:Nat) (F:Fn):Bool :=
 match P.funcs[f]? with
 | some fn=>(match fn.body with|some c=>cOk P fn.ntmps F.m c F.body|none=>false) && (decide (fn.results.size≤5) && (Ql1 P fn.results.toList F.res && fn.name != "runtime.NumGoroutine"))
 | none=>false
theorem QkY {al:List (List Nat)} : al.flatten.Nodup→∀ {k k':Nat} {l l':List Nat} {r:Nat}, al[k]? = some l→al[k']? = some l'→r∈l→r∈l'→k=k':=by
 induction al with
 | nil=>intro _ k k' l l' r h;simp at h
 | cons x al ih =>
  intro hn k k' l l' r h1 h2 h3 h4
  rw [List.flatten_cons,List.nodup_append] at hn
  obtain ⟨_,hn2,hn3⟩:=hn
  have mem:∀ {j:Nat} {l:List Nat}, al[j]? = some l→r∈l→r∈al.flatten:=fun h hr=>List.mem_flatten.2 ⟨_,List.mem_of_getElem? h,hr⟩
  cases k with
  | zero =>
   cases k' with
   | zero=>rfl
   | succ k' =>
    simp only [List.getElem?_cons_zero,Option.some.injEq,List.getElem?_cons_succ] at h1 h2
    subst h1
    exact absurd rfl (hn3 r h3 r (mem h2 h4))
  | succ k =>
   cases k' with
   | zero =>
    simp only [List.getElem?_cons_zero,Option.some.injEq,List.getElem?_cons_succ] at h1 h2
    subst h2
    exact absurd rfl (hn3 r h4 r (mem h1 h3))
   | succ k'=>rw [ih hn2 h1 h2 h3 h4]
theorem Qix (rs:Rs) (us:List Nat):∀ (l:List Qaj) (n k:Nat) (R:Qaj),l[k]? = some R→(Qgd rs us n l)[k]? = some (if R.own then (if n+k∈us then none else (rs (n+k)).map Qaj.xs) else none)
 | [],n,k,R,h=>by simp at h
 | R0::l,n,k,R,h=>by
  cases k with
  | zero=>simp only [List.getElem?_cons_zero,Option.some.injEq] at h;subst h;simp only [Qgd,List.getElem?_cons_zero,Nat.add_zero]
  | succ k=>simp only [Qgd,List.getElem?_cons_succ] at h ⊢; rw [Qix rs us l (n+1) k R h,Nat.add_assoc,Nat.add_comm 1 k]
theorem Qgc (rs:Rs) (us:List Nat):∀ (l:List Qaj) (n:Nat),(Qgd rs us n l).length=l.length
 | [],n=>rfl
 | R0::l,n=>by simp only [Qgd,List.length_cons,Qgc]
theorem QgU {rs:Rs} {us:List Nat} {l:List Qaj} {k:Nat} {ys:Els} (h:(Qgd rs us 0 l)[k]? = some (some ys)):k∉us∧∃ R0 R,l[k]? = some R0∧R0.own=true∧rs k=some R∧ys=R.xs:=by
 have hk:k<l.length:=by have:=(List.getElem?_eq_some_iff.1 h).1;rwa [Qgc] at this
 have h1:=Qix rs us l 0 k l[k] (List.getElem?_eq_getElem hk)
 rw [h,Nat.zero_add] at h1
 injection h1 with h1
 split at h1
 ·rename_i hown
  split at h1
  ·cases h1
  ·rename_i hu
   have h1:=h1.symm
   simp only [Option.map_eq_some_iff] at h1
   obtain ⟨R,e1,e2⟩:=h1
   exact ⟨hu,_,R,List.getElem?_eq_getElem hk,hown,e1,e2.symm⟩
 ·cases h1
section
variable {P:Program}
theorem Qpt (hm:P.follows .mixedOrders=true) {call:QaM} (hctr:∀ f ds out,call f ds=some out→QbM P f=true∧Ctr P f ds out) {again:C→St→Qgh→Option Out}
 (hag:∀ cx w0 N M,cx.m0≤M→Qfc P cx w0 N M again) {f:Nat} {F:Fn} (hf:Qyj P f F=true) {ds:List AV} {out:Out} (hle:(Qam ds 0).2.length≤F.m)
 (he:evC call again F.body (QcU ds) (Qyp F ds)=some out):QbM P f=true∧Ctr P f ds out:=by
 unfold Qyj at hf
 split at hf
 case h_2=>cases hf
 rename_i fn hfn
 simp only [Bool.and_eq_true,decide_eq_true_eq,bne_iff_ne] at hf
 obtain ⟨hb,hr3,hres,hname⟩:=hf
 split at hb
 case h_2=>cases hb
 rename_i c hbody
 refine ⟨by simp only [QbM,hfn,hbody];simpa using hname, ?_⟩
 intro w S args gs hS hvs hsta hno hinj
 have hrts:(Qam ds 0).2=QaJ ds:=QdB ds 0
 obtain ⟨⟨hlen,hrg⟩,hent⟩:=Qdp hvs 0
 rw [hrts] at hlen hrg hle
 let A0:Nat→Gh:=fun k=>gs.getD k fun _=>none
 let rs0:Rs:=fun r=>(QaJ ds)[r]?
 let cx:Cx := { base:=w.heap.size,O:=fun b=>∃ k ρ,KOf (QaJ ds) gs false k ρ b,S:=S,ok:=fun b hb=>⟨hS b hb,fun ⟨k,ρ,h⟩=>hno k ρ b h hb⟩,m0:=(QaJ ds).length,rs0:=rs0,A0:=A0 }
 have hA0:∀ {k:Nat} {G:Gh}, gs[k]? = some G→A0 k=G:=fun h=>by simp only [A0,List.getD_eq_getElem?_getD,h,Option.getD_some]
 have kof:∀ {r:Nat} {R:Qaj} {f:Bool} {ρ:QaO} {b:Nat}, rs0 r=some R→R.Key (A0 r) f ρ b→KOf (QaJ ds) gs f r ρ b:=fun {r R f ρ b} e hk=>by
  obtain ⟨G,hG,_⟩:=hrg r R e
  exact ⟨R,G,e,hG,by rw [hA0 hG] at hk;exact hk⟩
 have hheap:HR cx w A0 rs0:=by
  refine ⟨fun r R e => ?_,fun r R ρ b e hk => .inr ⟨r,ρ,kof e hk⟩,fun r R ρ b e hk=>hsta r ρ b (kof e hk),fun r R ρ r' R' ρ' b e hk e' hk'=>hinj r ρ r' ρ' b (kof e hk) (kof e' hk')⟩
  obtain ⟨G,hG,ht⟩:=hrg r R e
  rw [hA0 hG];exact ht
 have hst:QcU ds=⟨fun t=>(Qam ds 0).1.getD t .undef,rs0,(QaJ ds).length⟩:=by simp only [QcU,hrts];rfl
 have hpw:=hent (D:=(· < (QaJ ds).length)) (A:=A0) (rs:=rs0) (by
  rw [hrts]
  intro k R G h1 h2
  rw [Nat.zero_add]
  exact ⟨h1,hA0 h2,(List.getElem?_eq_some_iff.1 h1).1⟩)
 have hsr:SR cx w fn.ntmps (· < (QcU ds).nx) A0 (QcU ds).tm (QcU ds).rs { tmps:=args.toArray++Array.replicate (fn.ntmps-args.toArray.size) undef,defers:=[] } w:=by
  rw [hst]
  refine ⟨hheap,fun t => ?_,fun r R e=>(List.getElem?_eq_some_iff.1 e).1,by simp only [Array.size_append,Array.size_replicate];omega,rfl,⟨Nat.le_refl _,fun _ _ _=>rfl,rfl,rfl,rfl,Nat.le_refl _⟩,fun _ _ h=>h,fun k hk=>hk,fun k hk R' e=>⟨R',e,rfl,rfl,rfl,rfl⟩⟩
  simp only [List.getD_eq_getElem?_getD]
  cases e:(Qam ds 0).1[t]? with
  | none=>exact QfA
  | some av =>
   obtain ⟨v,h1,h2⟩:=hpw.2 t av e
   have:(args.toArray++Array.replicate (fn.ntmps-args.toArray.size) undef).getD t undef=v:=by
    have ht:t<args.length:=(List.getElem?_eq_some_iff.1 h1).1
    rw [Array.getD_eq_getD_getElem?, Array.getElem?_append_left (by simpa using ht)]
    simp [h1]
   simp only [Option.getD_some,this]
   exact h2.vr
 refine calls_of_wp hfn hbody ?_
 refine Qii (cx:=cx) (w0:=w) (M:=F.m) hle hm hctr (hag _ _ _ _ hle) F.body c _ _ out _ _ _ hb he ⟨A0,hsr⟩ ?_
 intro e st a w' hk hat
 obtain ⟨A,hs⟩:=hat
 have main:((QbU st F.res).bind fun vs=>(Qbc st.nx st.rs vs).bind fun p=>Qm3 (Qam ds 0).2 p.2 p.1)=some out→a.defers=[]∧∃ v,(results fn a.tmps).run P w' = .ok v w'∧∃ v_1 vs gs' gb,Ending.returned v = .returned v_1∧Qzh S (QaJ ds) gs w out v_1 w' vs gs' gb:=by
  intro h
  simp only [Option.bind_eq_some_iff,Qm3] at h
  obtain ⟨vs,h1,p,hsp,⟨outs,us⟩,h2,h3⟩:=h
  split at h3
  case isFalse=>cases h3
  rename_i hnd
  injection h3 with h3
  subst h3
  obtain ⟨vals,g1,g2'⟩:=QeW hs hres h1
  obtain ⟨D2,A2,st2,hD2,g2⟩:=Qgu hs.heap hs.fr hs.ids g2' (fun j (hj:st.nx+j<st.nx)=>by omega) hsp
  obtain ⟨vs,rs2⟩:=p
  replace hs:=hs.stepped st2 hD2
  simp only at h2 g2 hs
  obtain ⟨gs',al,g3,g4,g5⟩:=QjF hs.heap (QjG h2 g2) h2
  subst g5
  rw [hrts]
  refine ⟨hs.defers,_,QiN (l:=fn.results.toList) (by simp) (by simpa using hr3) g1,_,vals,gs',A2,rfl, ?_⟩
  have bk:∀ {f:Bool} {k:Nat} {ρ:QaO} {b:Nat}, KBk (QaJ ds) A2 (Qgd rs2 al.flatten 0 (QaJ ds)) f k ρ b→k∉al.flatten∧∃ R,rs2 k=some R∧R.Key (A2 k) f ρ b:=fun {f k ρ b} ⟨R0,ys,e1,e2,e3⟩=>by
   obtain ⟨hu,R0',R,d1,d2,d3,d4⟩:=QgU e2
   rw [e1] at d1;injection d1 with d1;subst d1
   obtain ⟨R0',k1,k2,k3,k4,k5⟩:=hs.kept k (List.getElem?_eq_some_iff.1 e1).1 R d3
   have e1':rs0 k=some R0:=e1
   have k1':rs0 k=some R0':=k1
   rw [e1'] at k1';injection k1' with k1';subst k1'
   refine ⟨hu,R,d3, ?_⟩
   subst d4
   unfold Qaj.Key at e3 ⊢
   rw [k2] at e3
   rw [←k3,d2]
   exact e3
  have ok:∀ {k:Nat} {ρ:QaO} {b:Nat}, KOf (QaJ outs) gs' false k ρ b→∃ r l R ρ',al[k]? = some l∧r∈l∧rs2 r=some R∧R.Key (A2 r) false ρ' b:=fun {k ρ b} ⟨R,G,e1,e2,e3⟩=>by
   have hkl:k<al.length:=by rw [←g4.len2];exact (List.getElem?_eq_some_iff.1 e1).1
   obtain ⟨r,Rr,ρ',d1,d2,d3⟩:=g4.own k R G al[k] ρ b e1 e2 (List.getElem?_eq_getElem hkl) e3
   exact ⟨r,_,Rr,ρ',List.getElem?_eq_getElem hkl,d1,d2,d3⟩
  exact {
   val:=rfl
   res:=g3
   blen:=Qgc _ _ _ _
   back:=fun k R0 G ys e1 e2 e3=>by
    obtain ⟨hu,R0',R,d1,d2,d3,d4⟩:=QgU e3
    rw [e1] at d1;injection d1 with d1;subst d1
    obtain ⟨R0',k1,k2,k3,k4,k5⟩:=hs.kept k (List.getElem?_eq_some_iff.1 e1).1 R d3
    have e1':rs0 k=some R0:=e1
    have k1':rs0 k=some R0':=k1
    rw [e1'] at k1';injection k1' with k1';subst k1'
    subst d4
    have ht:=hs.heap.tree k R d3
    rw [←k3,d2, ←k2] at ht
    have k5':A2 k []=A0 k []:=k5
    exact ⟨d2,by rw [k5',hA0 e2],k4.symm,ht⟩
   size:=hs.fr.base
   block:=fun b hb hno'=>hs.fr.block b hb fun ⟨k,ρ,h⟩=>hno' k ρ h
   big:=hs.big
   os:=hs.fr.os
   tape:=hs.fr.tape
   output:=hs.fr.output
   drawn:=hs.fr.drawn
   rown:=fun k ρ b h=>by
    obtain ⟨r,l,R,ρ',d1,d2,d3,d4⟩:=ok h
    exact hs.heap.own r R ρ' b d3 d4
   rsta:=fun k ρ b ⟨R,G,e1,e2,e3⟩=>g4.sta k R G ρ b e1 e2 e3
   bown:=fun k ρ b h=>by
    obtain ⟨_,R,d1,d2⟩:=bk h
    exact hs.heap.own k R ρ b d1 d2
   bsta:=fun k ρ b h=>by
    obtain ⟨_,R,d1,d2⟩:=bk h
    exact hs.heap.sta k R ρ b d1 d2
   rinj:=fun k ρ k' ρ' b h h'=>by
    obtain ⟨r,l,R,p,d1,d2,d3,d4⟩:=ok h
    obtain ⟨r',l',R',p',d1',d2',d3',d4'⟩:=ok h'
    obtain ⟨e,_⟩:=hs.heap.inj r R p r' R' p' b d3 d4 d3' d4'
    subst e
    have e:=QkY hnd d1 d1' d2 d2'
    subst e
    obtain ⟨R1,G1,a1,a2,a3⟩:=h
    obtain ⟨R2,G2,b1,b2,b3⟩:=h'
    rw [a1] at b1;rw [a2] at b2
    injection b1 with b1;injection b2 with b2;subst b1;subst b2
    exact ⟨rfl,g4.inj k R1 G1 ρ ρ' b a1 a2 a3 b3⟩
   binj:=fun k ρ k' ρ' b h h'=>by
    obtain ⟨_,R,d1,d2⟩:=bk h
    obtain ⟨_,R',d1',d2'⟩:=bk h'
    exact hs.heap.inj k R ρ k' R' ρ' b d1 d2 d1' d2'
   xinj:=fun k ρ k' ρ' b h h'=>by
    obtain ⟨r,l,R,p,d1,d2,d3,d4⟩:=ok h
    obtain ⟨hu,R',d1',d2'⟩:=bk h'
    obtain ⟨e,_⟩:=hs.heap.inj r R p k' R' ρ' b d3 d4 d1' d2'
    subst e
    exact hu (List.mem_flatten.2 ⟨l,List.mem_of_getElem? d1,d2⟩) }
 cases e with
 | normal=>exact main hk
 | ret=>exact main hk
 | exit i=>cases hk
structure Qp6 (P:Program) (E:Env):Prop where
 fns:∀ f F,E.fns f=some F→Qyj P f F=true
 ext:∀ f x,E.ext f=some x→∀ call:QaM,(∀ f ds out,call f ds=some out→QbM P f=true∧Ctr P f ds out)→∀ ds out,x.g call ds=some out→QbM P f=true∧Ctr P f ds out
theorem QpF (hm:P.follows .mixedOrders=true) {E:Env} (hE:Qp6 P E):∀ k:Nat,(∀ f ds out,Qch E k f ds=some out→QbM P f=true∧Ctr P f ds out)∧∀ cx w0 N M,cx.m0≤M→Qfc P cx w0 N M (ev E k):=by
 intro k
 induction k with
 | zero =>
  refine ⟨fun f ds out h => ?_,fun cx w0 N M hM m live c C st K out Q a w _ hc he=>by cases (show (none:Option Out)=some out from he)⟩
  rw [Qod] at h
  unfold QdS at h
  split at h
  ·rename_i g hg;exact hE.ext f g hg _ (fun f ds out h=>by cases h) ds out h
  ·simp only [Option.bind_eq_some_iff] at h
   obtain ⟨F,h1,h2⟩:=h
   split at h2
   ·cases (show (none:Option Out)=some out from h2)
   ·cases h2
 | succ k ih =>
  have hag:∀ cx w0 N M,cx.m0≤M→Qfc P cx w0 N M (ev E (k+1)):=fun cx w0 N M hM=>by
   rw [Qyo]
   exact QkZ hM hm ih.1 (ih.2 cx w0 N M hM)
  refine ⟨fun f ds out h => ?_,hag⟩
  rw [Qe8] at h
  unfold QdS at h
  split at h
  ·rename_i g hg;exact hE.ext f g hg _ ih.1 ds out h
  ·simp only [Option.bind_eq_some_iff] at h
   obtain ⟨F,h1,h2⟩:=h
   split at h2
   ·rename_i hle
    rw [Qyo] at h2
    exact Qpt hm ih.1 ih.2 (hE.fns f F h1) hle h2
   ·cases h2
theorem Qjd (hm:P.follows .mixedOrders=true) {E:Env} (hE:Qp6 P E) {k f:Nat} {ds:List AV} {out:Out} (h:Qch E k f ds=some out):QbM P f=true∧Ctr P f ds out:=(QpF hm hE k).1 f ds out h
end
end Go.Proofs.YtallpjhkmcgpoaaGreat.V
end
section
namespace Go.Proofs.YtallpjhkmcgpoaaGreat.V
open Go
section
def CLe (c c':QaM):Prop:=∀ f ds out,c f ds=some out→c' f ds=some out
theorem CLe.rfl' {c:QaM} : CLe c c:=fun _ _ _ h=>h
theorem QgV {c c':QaM} (h:CLe c c') {n:Nat} {rs:Rs} {f:Nat} {ms:List Bool} {vs:List AV} {x:AV×Rs} (e:QeL c n rs f ms vs=some x):QeL c' n rs f ms vs=some x:=by
 unfold QeL at e ⊢
 simp only [Option.bind_eq_some_iff] at e ⊢
 obtain ⟨a,h1,h2⟩:=e
 refine ⟨a,h1, ?_⟩
 split at h2
 ·rename_i h3
  rw [if_pos h3]
  simp only [Option.bind_eq_some_iff] at h2 ⊢
  obtain ⟨b,h4,h5⟩:=h2
  exact ⟨b,h _ _ _ h4,h5⟩
 ·cases h2
theorem QpK {c c':QaM} (h:CLe c c') {n:Nat} {tm:Tm} {rs:Rs} {i:I} {x:AV×Rs} (e:evI c n tm rs i=some x):evI c' n tm rs i=some x:=by
 cases i
 case call f ms args=>exact QgV h e
 case callv g ms args =>
  simp only [evI] at e ⊢
  split at e
  ·exact QgV h e
  ·cases e
 all_goals exact e
theorem QeC {c c':QaM} (h:CLe c c') {n:Nat} {o:Op'} {s t:Tm×Rs} (e:Qeo c n o s=some t):Qeo c' n o s=some t:=by
 unfold Qeo at e ⊢
 simp only [Option.bind_eq_some_iff] at e ⊢
 obtain ⟨w,h1,h2⟩:=e
 refine ⟨w,h1, ?_⟩
 cases w with
 | false=>exact h2
 | true =>
  simp only [↓reduceIte,Option.bind_eq_some_iff,Option.map_eq_some_iff] at h2 ⊢
  obtain ⟨a,h3,b,h4,h5⟩:=h2
  exact ⟨a,h3,b,QpK h h4,h5⟩
theorem Qdo {c c':QaM} (h:CLe c c'):∀ {l:List Op'} {n:Nat} {s t:Tm×Rs}, QbB c n l s=some t→QbB c' n l s=some t
 | [],n,s,t,e=>e
 | o::l,n,s,t,e=>by
  simp only [QbB,Option.bind_eq_some_iff] at e ⊢
  obtain ⟨a,h1,h2⟩:=e
  exact ⟨a,QeC h h1,Qdo h h2⟩
theorem Qb8 {c c':QaM} (h:CLe c c') {n:Nat} {l:List Op'} : ∀ {sc:QcZ} {s t:Tm×Rs}, Qcg c n l sc s=some t→Qcg c' n l sc s=some t
 | .done,s,t,e=>e
 | .take k sc,s,t,e=>by
  simp only [Qcg,Option.bind_eq_some_iff] at e ⊢
  obtain ⟨o,h0,a,h1,h2⟩:=e
  exact ⟨o,h0,a,QeC h h1,Qb8 h h2⟩
 | .alt x y,s,t,e=>by
  simp only [Qcg,Option.bind_eq_some_iff] at e ⊢
  obtain ⟨a,h1,h2⟩:=e
  split at h2
  ·rename_i h3
   injection h2 with h2;subst h2
   exact ⟨a,Qb8 h h1,by rw [if_pos (Qb8 h h3)]⟩
  ·cases h2
def KLe (K K':Qgh):Prop:=∀ e s out,K e s=some out→K' e s=some out
theorem QpN {c c':QaM} (h:CLe c c') {ag ag':C→St→Qgh→Option Out} (ha:∀ C st K K' out,KLe K K'→ag C st K=some out→ag' C st K'=some out) :
 ∀ (C:C) (st:St) (K K':Qgh) (out:Out),KLe K K'→evC c ag C st K=some out→evC c' ag' C st K'=some out:=by
 intro C
 induction C with
 | skip=>intro st K K' out hK e;exact hK _ _ _ e
 | ops l =>
  intro st K K' out hK e
  simp only [evC,Option.bind_eq_some_iff] at e ⊢
  obtain ⟨s,h1,h2⟩:=e
  exact ⟨s,Qdo h h1,hK _ _ _ h2⟩
 | draw sch l =>
  intro st K K' out hK e
  simp only [evC,Option.bind_eq_some_iff] at e ⊢
  obtain ⟨s,h1,h2⟩:=e
  exact ⟨s,Qb8 h h1,hK _ _ _ h2⟩
 | seq a b iha ihb =>
  intro st K K' out hK e
  simp only [evC] at e ⊢
  refine iha st _ _ out (fun e s out h1 => ?_) e
  cases e with
  | normal=>exact ihb s K K' out hK h1
  | exit id=>exact hK _ _ _ h1
  | ret=>exact hK _ _ _ h1
 | cond x a b iha ihb =>
  intro st K K' out hK e
  simp only [evC] at e ⊢
  split at e
  ·rename_i t _
   cases t
   ·exact ihb st K K' out hK e
   ·exact iha st K K' out hK e
  ·simp only [Option.bind_eq_some_iff] at e ⊢
   obtain ⟨r,h1,h2⟩:=e
   split at h2
   ·rename_i h3
    injection h2 with h2;subst h2
    exact ⟨r,iha st K K' r hK h1,by rw [if_pos (ihb st K K' r hK h3)]⟩
   ·cases h2
  ·simp only [Option.bind_eq_some_iff] at e ⊢
   obtain ⟨r,h1,h2⟩:=e
   split at h2
   ·rename_i h3
    injection h2 with h2;subst h2
    exact ⟨r,iha _ K K' r hK h1,by rw [if_pos (ihb _ K K' r hK h3)]⟩
   ·cases h2
  ·cases e
 | blk id x ih =>
  intro st K K' out hK e
  simp only [evC] at e ⊢
  refine ih st _ _ out (fun e s out h1 => ?_) e
  cases e with
  | normal=>exact hK _ _ _ h1
  | exit i =>
   simp only at h1 ⊢
   split at h1 <;> rename_i h2
   ·rw [if_pos h2];exact hK _ _ _ h1
   ·rw [if_neg h2];exact hK _ _ _ h1
  | ret=>exact hK _ _ _ h1
 | loop m live x ih =>
  intro st K K' out hK e
  simp only [evC] at e ⊢
  refine ih _ _ _ out (fun e s out h1 => ?_) e
  cases e with
  | normal=>exact ha _ _ _ _ _ hK h1
  | exit id=>exact hK _ _ _ h1
  | ret=>exact hK _ _ _ h1
 | exit id=>intro st K K' out hK e;exact hK _ _ _ e
 | ret=>intro st K K' out hK e;exact hK _ _ _ e
 | kp live x ih =>
  intro st K K' out hK e
  simp only [evC] at e ⊢
  refine ih _ _ _ out (fun e s out h1 => ?_) e
  cases e with
  | normal=>exact hK _ _ _ h1
  | exit id=>exact hK _ _ _ h1
  | ret=>exact hK _ _ _ h1
 | jn m live x ih =>
  intro st K K' out hK e
  simp only [evC] at e ⊢
  refine ih _ _ _ out (fun e s out h1 => ?_) e
  cases e with
  | normal=>exact hK _ _ _ h1
  | exit id=>exact hK _ _ _ h1
  | ret=>exact hK _ _ _ h1
theorem Qf9 {E:Env} {run run':C→St→Qgh→Option Out} {call call':QaM} (ha:∀ C st K out,run C st K=some out→run' C st K=some out) (hc:CLe call call'):CLe (QdS E run call) (QdS E run' call'):=by
 intro f ds out e
 unfold QdS at e ⊢
 split at e
 ·rename_i x hx;exact x.mono call call' (fun f ds out h=>hc f ds out h) ds out e
 ·rename_i hg
  simp only [Option.bind_eq_some_iff] at e ⊢
  obtain ⟨F,h1,h2⟩:=e
  refine ⟨F,h1, ?_⟩
  split at h2
  ·rename_i h3;rw [if_pos h3];exact ha _ _ _ _ h2
  ·cases h2
theorem Qho (E:Env):∀ k:Nat,(∀ (C:C) (st:St) (K K':Qgh) (out:Out),KLe K K'→ev E k C st K=some out→ev E (k+1) C st K'=some out)∧CLe (Qch E k) (Qch E (k+1))
 | 0=>by
  have h0:∀ (C:C) (st:St) (K K':Qgh) (out:Out),KLe K K'→ev E 0 C st K=some out→ev E (0+1) C st K'=some out:=fun _ _ _ _ out _ e=>by cases (show (none:Option Out)=some out from e)
  refine ⟨h0, ?_⟩
  rw [Qod,Qe8]
  exact Qf9 (fun C st K out h=>h0 C st K K out (fun _ _ _ h=>h) h) (fun f ds out e=>by cases (show (none:Option Out)=some out from e))
 | k+1=>by
  obtain ⟨h1,h2⟩:=Qho E k
  have h3:∀ (C:C) (st:St) (K K':Qgh) (out:Out),KLe K K'→ev E (k+1) C st K=some out→ev E (k+1+1) C st K'=some out:=fun C st K K' out hK e=>by
   rw [Qyo] at e ⊢
   exact QpN h2 h1 C st K K' out hK e
  refine ⟨h3, ?_⟩
  rw [Qe8 E k,Qe8 E (k+1)]
  exact Qf9 (fun C st K out h=>h3 C st K K out (fun _ _ _ h=>h) h) h2
theorem Qto (E:Env) (k:Nat) (C:C) (st:St) (K K':Qgh) (out:Out):KLe K K'→ev E k C st K=some out→ev E (k+1) C st K'=some out:=(Qho E k).1 C st K K' out
theorem QgR (E:Env) (k:Nat):CLe (Qch E k) (Qch E (k+1)):=(Qho E k).2
theorem QcE (E:Env) {k k':Nat} (h:k≤k'):CLe (Qch E k) (Qch E k'):=by
 induction h with
 | refl=>exact .rfl'
 | step _ ih=>exact fun f ds out e=>QgR E _ f ds out (ih f ds out e)
open Classical in
noncomputable def Qao (E:Env):QaM:=fun f ds=>if h:∃ out k,Qch E k f ds=some out then some h.choose else none
theorem Qhx {E:Env} {k f:Nat} {ds:List AV} {out:Out} (h:Qch E k f ds=some out):Qao E f ds=some out:=by
 have hx:∃ out k,Qch E k f ds=some out:=⟨out,k,h⟩
 unfold Qao
 rw [dif_pos hx]
 obtain ⟨k',h'⟩:=hx.choose_spec
 have h1:=QcE E (Nat.le_max_left k k') _ _ _ h
 have h2:=QcE E (Nat.le_max_right k k') _ _ _ h'
 rw [h1] at h2
 exact h2.symm
theorem Qe7 {E:Env} {f:Nat} {ds:List AV} {out:Out} (h:Qao E f ds=some out):∃ k,Qch E k f ds=some out:=by
 unfold Qao at h
 split at h
 ·rename_i hx
  injection h with h
  obtain ⟨k,e⟩:=hx.choose_spec
  exact ⟨k,h▸e⟩
 ·cases h
theorem Qiv (E:Env) (k:Nat):CLe (Qch E k) (Qao E):=fun _ _ _ h=>Qhx h
section
variable {E:Env}
theorem QgW {n:Nat} {rs:Rs} {f:Nat} {ms:List Bool} {vs:List AV} {x:AV×Rs} (e:QeL (Qao E) n rs f ms vs=some x):∃ k,QeL (Qch E k) n rs f ms vs=some x:=by
 unfold QeL at e
 simp only [Option.bind_eq_some_iff] at e
 obtain ⟨a,h1,h2⟩:=e
 split at h2
 ·rename_i h3
  simp only [Option.bind_eq_some_iff] at h2
  obtain ⟨b,h4,h5⟩:=h2
  obtain ⟨k,hk⟩:=Qe7 h4
  refine ⟨k, ?_⟩
  unfold QeL
  simp only [Option.bind_eq_some_iff]
  exact ⟨a,h1,by rw [if_pos h3];exact Option.bind_eq_some_iff.2 ⟨b,hk,h5⟩⟩
 ·cases h2
theorem QpL {n:Nat} {tm:Tm} {rs:Rs} {i:I} {x:AV×Rs} (e:evI (Qao E) n tm rs i=some x):∃ k,evI (Qch E k) n tm rs i=some x:=by
 cases i
 case call f ms args=>exact QgW e
 case callv g ms args =>
  simp only [evI] at e ⊢
  split at e
  ·exact QgW e
  ·cases e
 all_goals exact ⟨0,e⟩
theorem Qif {n:Nat} {o:Op'} {s t:Tm×Rs} (e:Qeo (Qao E) n o s=some t):∃ k,Qeo (Qch E k) n o s=some t:=by
 unfold Qeo at e ⊢
 simp only [Option.bind_eq_some_iff] at e ⊢
 obtain ⟨w,h1,h2⟩:=e
 cases w with
 | false=>exact ⟨0,false,h1,h2⟩
 | true =>
  simp only [↓reduceIte,Option.bind_eq_some_iff,Option.map_eq_some_iff] at h2
  obtain ⟨a,h3,b,h4,h5⟩:=h2
  obtain ⟨k,hk⟩:=QpL h4
  refine ⟨k,true,h1, ?_⟩
  simp only [↓reduceIte,Option.bind_eq_some_iff,Option.map_eq_some_iff]
  exact ⟨a,h3,b,hk,h5⟩
theorem QgM:∀ {l:List Op'} {n:Nat} {s t:Tm×Rs}, QbB (Qao E) n l s=some t→∃ k,QbB (Qch E k) n l s=some t
 | [],n,s,t,e=>⟨0,e⟩
 | o::l,n,s,t,e=>by
  simp only [QbB,Option.bind_eq_some_iff] at e ⊢
  obtain ⟨a,h1,h2⟩:=e
  obtain ⟨k1,g1⟩:=Qif h1
  obtain ⟨k2,g2⟩:=QgM h2
  exact ⟨max k1 k2,a,QeC (QcE E (Nat.le_max_left k1 k2)) g1,Qdo (QcE E (Nat.le_max_right k1 k2)) g2⟩
theorem QdZ {n:Nat} {l:List Op'} : ∀ {sc:QcZ} {s t:Tm×Rs}, Qcg (Qao E) n l sc s=some t→∃ k,Qcg (Qch E k) n l sc s=some t
 | .done,s,t,e=>⟨0,e⟩
 | .take k sc,s,t,e=>by
  simp only [Qcg,Option.bind_eq_some_iff] at e ⊢
  obtain ⟨o,h0,a,h1,h2⟩:=e
  obtain ⟨k1,g1⟩:=Qif h1
  obtain ⟨k2,g2⟩:=QdZ h2
  exact ⟨max k1 k2,o,h0,a,QeC (QcE E (Nat.le_max_left k1 k2)) g1,Qb8 (QcE E (Nat.le_max_right k1 k2)) g2⟩
 | .alt x y,s,t,e=>by
  simp only [Qcg,Option.bind_eq_some_iff] at e ⊢
  obtain ⟨a,h1,h2⟩:=e
  split at h2
  ·rename_i h3
   injection h2 with h2;subst h2
   obtain ⟨k1,g1⟩:=QdZ h1
   obtain ⟨k2,g2⟩:=QdZ h3
   exact ⟨max k1 k2,a,Qb8 (QcE E (Nat.le_max_left k1 k2)) g1,by rw [if_pos (Qb8 (QcE E (Nat.le_max_right k1 k2)) g2)]⟩
  ·cases h2
end
abbrev Pst:=Ex→St→Prop
def PLe (Q Q':Pst):Prop:=∀ e s,Q e s→Q' e s
def wC (call:QaM) (again:C→St→Pst→Prop):C→St→Pst→Prop
 | .skip,st,Q=>Q .normal st
 | .ops l,st,Q=>∃ s,QbB call st.nx l (st.tm,st.rs)=some s∧Q .normal ⟨s.1,s.2,st.nx+l.length * idw⟩
 | .draw sch l,st,Q=>∃ s,Qcg call st.nx l sch (st.tm,st.rs)=some s∧Q .normal ⟨s.1,s.2,st.nx+l.length * idw⟩
 | .seq a b,st,Q=>wC call again a st fun e st'=>match e with
  | .normal=>wC call again b st' Q
  | .exit id=>Q (.exit id) st'
  | .ret=>Q .ret st'
 | .cond x a b,st,Q=>match x.ev st.tm with
  | .b t=>if t then wC call again a st Q else wC call again b st Q
  | .mb=>wC call again a st Q∧wC call again b st Q
  | .cv 1 r off sz n=>wC call again a (tok x 3 r off sz n st) Q∧wC call again b (tok x 2 r off sz n st) Q
  | _=>False
 | .blk id c,st,Q=>wC call again c st fun e st'=>match e with
  | .normal=>Q .normal st'
  | .exit i=>if i=id then Q .normal st' else Q (.exit i) st'
  | .ret=>Q .ret st'
 | .loop m live c,st,Q=>wC call again c (canon m live st) fun e st'=>match e with
  | .normal=>again (.loop m live c) st' Q
  | .exit id=>Q (.exit id) st'
  | .ret=>Q .ret st'
 | .exit id,st,Q=>Q (.exit id) st
 | .ret,st,Q=>Q .ret st
 | .kp live c,st,Q=>wC call again c st fun e st'=>match e with
  | .normal=>Q .normal (forget live st')
  | .exit id=>Q (.exit id) st'
  | .ret=>Q .ret st'
 | .jn m live c,st,Q=>wC call again c st fun e st'=>match e with
  | .normal=>Q .normal (canon m live st')
  | .exit id=>Q (.exit id) st'
  | .ret=>Q .ret st'
theorem QeO {c c':QaM} (h:CLe c c') {ag ag':C→St→Pst→Prop} (ha:∀ C st Q Q',PLe Q Q'→ag C st Q→ag' C st Q') :
 ∀ (C:C) (st:St) (Q Q':Pst),PLe Q Q'→wC c ag C st Q→wC c' ag' C st Q':=by
 intro C
 induction C with
 | skip=>intro st Q Q' hQ e;exact hQ _ _ e
 | ops l=>intro st Q Q' hQ ⟨s,h1,h2⟩;exact ⟨s,Qdo h h1,hQ _ _ h2⟩
 | draw sch l=>intro st Q Q' hQ ⟨s,h1,h2⟩;exact ⟨s,Qb8 h h1,hQ _ _ h2⟩
 | seq a b iha ihb =>
  intro st Q Q' hQ e
  simp only [wC] at e ⊢
  refine iha st _ _ (fun e s h1 => ?_) e
  cases e with
  | normal=>exact ihb s Q Q' hQ h1
  | exit id=>exact hQ _ _ h1
  | ret=>exact hQ _ _ h1
 | cond x a b iha ihb =>
  intro st Q Q' hQ e
  simp only [wC] at e ⊢
  split at e
  ·rename_i t _
   cases t
   ·exact ihb st Q Q' hQ e
   ·exact iha st Q Q' hQ e
  ·exact ⟨iha st Q Q' hQ e.1,ihb st Q Q' hQ e.2⟩
  ·exact ⟨iha _ Q Q' hQ e.1,ihb _ Q Q' hQ e.2⟩
  ·cases e
 | blk id x ih =>
  intro st Q Q' hQ e
  simp only [wC] at e ⊢
  refine ih st _ _ (fun e s h1 => ?_) e
  cases e with
  | normal=>exact hQ _ _ h1
  | exit i =>
   simp only at h1 ⊢
   split at h1 <;> rename_i h2
   ·rw [if_pos h2];exact hQ _ _ h1
   ·rw [if_neg h2];exact hQ _ _ h1
  | ret=>exact hQ _ _ h1
 | loop m live x ih =>
  intro st Q Q' hQ e
  simp only [wC] at e ⊢
  refine ih _ _ _ (fun e s h1 => ?_) e
  cases e with
  | normal=>exact ha _ _ _ _ hQ h1
  | exit id=>exact hQ _ _ h1
  | ret=>exact hQ _ _ h1
 | exit id=>intro st Q Q' hQ e;exact hQ _ _ e
 | ret=>intro st Q Q' hQ e;exact hQ _ _ e
 | kp live x ih =>
  intro st Q Q' hQ e
  simp only [wC] at e ⊢
  refine ih _ _ _ (fun e s h1 => ?_) e
  cases e <;> exact hQ _ _ h1
 | jn m live x ih =>
  intro st Q Q' hQ e
  simp only [wC] at e ⊢
  refine ih _ _ _ (fun e s h1 => ?_) e
  cases e <;> exact hQ _ _ h1
theorem Qsk {c:QaM} {ag:C→St→Pst→Prop} (hm:∀ C st Q Q',PLe Q Q'→ag C st Q→ag C st Q') (hs:∀ (C:C) (st:St) (Q:Nat→Pst),(∀ m,PLe (Q m) (Q (m+1)))→ag C st (fun e s=>∃ m,Q m e s)→∃ m,ag C st (Q m)) :
 ∀ (C:C) (st:St) (Q:Nat→Pst),(∀ m,PLe (Q m) (Q (m+1)))→wC c ag C st (fun e s=>∃ m,Q m e s)→∃ m,wC c ag C st (Q m):=by
 have up:∀ {Q:Nat→Pst}, (∀ m,PLe (Q m) (Q (m+1)))→∀ {m m':Nat}, m≤m'→PLe (Q m) (Q m'):=fun {Q} h m m' hle=>by
  induction hle with
  | refl=>exact fun _ _ h=>h
  | step _ ih=>exact fun e s hq=>h _ e s (ih e s hq)
 have mono:=QeO (c:=c) (c':=c) .rfl' hm
 intro C
 induction C with
 | skip=>intro st Q hQ ⟨m,e⟩;exact ⟨m,e⟩
 | ops l=>intro st Q hQ ⟨s,h1,m,h2⟩;exact ⟨m,s,h1,h2⟩
 | draw sch l=>intro st Q hQ ⟨s,h1,m,h2⟩;exact ⟨m,s,h1,h2⟩
 | seq a b iha ihb =>
  intro st Q hQ e
  simp only [wC] at e ⊢
  refine iha st (fun m e st'=>match e with | .normal=>wC c ag b st' (Q m) | .exit id=>Q m (.exit id) st' | .ret=>Q m .ret st') (fun m e s h1 => ?_) (mono a st _ _ (fun e s h1 => ?_) e)
  ·cases e with
   | normal=>exact mono b s _ _ (hQ m) h1
   | exit id=>exact hQ m _ _ h1
   | ret=>exact hQ m _ _ h1
  ·cases e with
   | normal=>exact ihb s Q hQ h1
   | exit id=>exact h1
   | ret=>exact h1
 | cond x a b iha ihb =>
  intro st Q hQ e
  simp only [wC] at e ⊢
  split at e
  ·rename_i t ht
   cases t
   ·exact ihb st Q hQ e
   ·exact iha st Q hQ e
  ·obtain ⟨m1,h1⟩:=iha st Q hQ e.1
   obtain ⟨m2,h2⟩:=ihb st Q hQ e.2
   exact ⟨max m1 m2,mono a st _ _ (up hQ (Nat.le_max_left _ _)) h1,mono b st _ _ (up hQ (Nat.le_max_right _ _)) h2⟩
  ·obtain ⟨m1,h1⟩:=iha _ Q hQ e.1
   obtain ⟨m2,h2⟩:=ihb _ Q hQ e.2
   exact ⟨max m1 m2,mono a _ _ _ (up hQ (Nat.le_max_left _ _)) h1,mono b _ _ _ (up hQ (Nat.le_max_right _ _)) h2⟩
  ·cases e
 | blk id x ih =>
  intro st Q hQ e
  simp only [wC] at e ⊢
  refine ih st (fun m e st'=>match e with | .normal=>Q m .normal st' | .exit i=>if i=id then Q m .normal st' else Q m (.exit i) st' | .ret=>Q m .ret st') (fun m e s h1 => ?_) (mono x st _ _ (fun e s h1 => ?_) e)
  ·cases e with
   | normal=>exact hQ m _ _ h1
   | exit i =>
    simp only at h1 ⊢
    split at h1 <;> rename_i h2
    ·rw [if_pos h2];exact hQ m _ _ h1
    ·rw [if_neg h2];exact hQ m _ _ h1
   | ret=>exact hQ m _ _ h1
  ·cases e with
   | normal=>exact h1
   | exit i =>
    simp only at h1 ⊢
    split at h1 <;> rename_i h2
    ·obtain ⟨m,h1⟩:=h1;exact ⟨m,by rw [if_pos h2];exact h1⟩
    ·obtain ⟨m,h1⟩:=h1;exact ⟨m,by rw [if_neg h2];exact h1⟩
   | ret=>exact h1
 | loop m0 live x ih =>
  intro st Q hQ e
  simp only [wC] at e ⊢
  refine ih _ (fun m e st'=>match e with | .normal=>ag (.loop m0 live x) st' (Q m) | .exit id=>Q m (.exit id) st' | .ret=>Q m .ret st') (fun m e s h1 => ?_) (mono x _ _ _ (fun e s h1 => ?_) e)
  ·cases e with
   | normal=>exact hm _ _ _ _ (hQ m) h1
   | exit id=>exact hQ m _ _ h1
   | ret=>exact hQ m _ _ h1
  ·cases e with
   | normal=>exact hs _ _ Q hQ h1
   | exit id=>exact h1
   | ret=>exact h1
 | exit id=>intro st Q hQ ⟨m,e⟩;exact ⟨m,e⟩
 | ret=>intro st Q hQ ⟨m,e⟩;exact ⟨m,e⟩
 | kp live x ih =>
  intro st Q hQ e
  simp only [wC] at e ⊢
  refine ih _ (fun m e st'=>match e with | .normal=>Q m .normal (forget live st') | .exit id=>Q m (.exit id) st' | .ret=>Q m .ret st') (fun m e s h1 => ?_) (mono x _ _ _ (fun e s h1 => ?_) e)
  ·cases e <;> exact hQ m _ _ h1
  ·cases e <;> exact h1
 | jn m0 live x ih =>
  intro st Q hQ e
  simp only [wC] at e ⊢
  refine ih _ (fun m e st'=>match e with | .normal=>Q m .normal (canon m0 live st') | .exit id=>Q m (.exit id) st' | .ret=>Q m .ret st') (fun m e s h1 => ?_) (mono x _ _ _ (fun e s h1 => ?_) e)
  ·cases e <;> exact hQ m _ _ h1
  ·cases e <;> exact h1
theorem QoB {c:QaM} {ag:C→St→Pst→Prop} {ag':C→St→Qgh→Option Out} (hm:∀ C st Q Q',PLe Q Q'→ag C st Q→ag C st Q') (ha:∀ C st K out,ag C st (fun e s=>K e s=some out)→ag' C st K=some out) :
 ∀ (C:C) (st:St) (K:Qgh) (out:Out),wC c ag C st (fun e s=>K e s=some out)→evC c ag' C st K=some out:=by
 have mono:=QeO (c:=c) (c':=c) .rfl' hm
 intro C
 induction C with
 | skip=>intro st K out e;exact e
 | ops l=>intro st K out ⟨s,h1,h2⟩;simp only [evC,h1,Option.bind_some];exact h2
 | draw sch l=>intro st K out ⟨s,h1,h2⟩;simp only [evC,h1,Option.bind_some];exact h2
 | seq a b iha ihb =>
  intro st K out e
  simp only [evC]
  refine iha st _ out (mono a st _ _ (fun e s h1 => ?_) e)
  cases e with
  | normal=>exact ihb s K out h1
  | exit id=>exact h1
  | ret=>exact h1
 | cond x a b iha ihb =>
  intro st K out e
  simp only [wC,evC] at e ⊢
  split at e
  ·rename_i t hx
   simp only [hx]
   cases t
   ·exact ihb st K out e
   ·exact iha st K out e
  ·rename_i hx
   simp only [hx,iha st K out e.1,Option.bind_some,if_pos (ihb st K out e.2)]
  ·rename_i hx
   simp only [hx,iha _ K out e.1,Option.bind_some,if_pos (ihb _ K out e.2)]
  ·exact e.elim
 | blk id x ih =>
  intro st K out e
  simp only [evC]
  refine ih st _ out (mono x st _ _ (fun e s h1 => ?_) e)
  cases e with
  | normal=>exact h1
  | exit i =>
   simp only at h1 ⊢
   split at h1 <;> rename_i h2
   ·rw [if_pos h2];exact h1
   ·rw [if_neg h2];exact h1
  | ret=>exact h1
 | loop m live x ih =>
  intro st K out e
  simp only [evC]
  refine ih _ _ out (mono x _ _ _ (fun e s h1 => ?_) e)
  cases e with
  | normal=>exact ha _ _ _ _ h1
  | exit id=>exact h1
  | ret=>exact h1
 | exit id=>intro st K out e;exact e
 | ret=>intro st K out e;exact e
 | kp live x ih =>
  intro st K out e
  simp only [evC]
  refine ih _ _ out (mono x _ _ _ (fun e s h1 => ?_) e)
  cases e <;> exact h1
 | jn m live x ih =>
  intro st K out e
  simp only [evC]
  refine ih _ _ out (mono x _ _ _ (fun e s h1 => ?_) e)
  cases e <;> exact h1
def Wn (E:Env):Nat→C→St→Pst→Prop
 | 0=>fun _ _ _=>False
 | k+1=>wC (Qch E k) (Wn E k)
theorem Qgl (E:Env):∀ (k:Nat) (C:C) (st:St) (Q Q':Pst),PLe Q Q'→Wn E k C st Q→Wn E k C st Q'
 | 0,_,_,_,_,_,h=>h
 | k+1,C,st,Q,Q',hQ,h=>QeO .rfl' (Qgl E k) C st Q Q' hQ h
theorem Qem (E:Env):∀ (k:Nat) (C:C) (st:St) (Q Q':Pst),PLe Q Q'→Wn E k C st Q→Wn E (k+1) C st Q'
 | 0,_,_,_,_,_,h=>h.elim
 | k+1,C,st,Q,Q',hQ,h=>QeO (QgR E k) (Qem E k) C st Q Q' hQ h
theorem Qgm (E:Env) {k k':Nat} (h:k≤k') {C:C} {st:St} {Q:Pst} (e:Wn E k C st Q):Wn E k' C st Q:=by
 induction h with
 | refl=>exact e
 | step _ ih=>exact Qem E _ C st Q Q (fun _ _ h=>h) ih
theorem Qjh (E:Env):∀ (k:Nat) (C:C) (st:St) (Q:Nat→Pst),(∀ m,PLe (Q m) (Q (m+1)))→Wn E k C st (fun e s=>∃ m,Q m e s)→∃ m,Wn E k C st (Q m)
 | 0,_,_,_,_,h=>h.elim
 | k+1,C,st,Q,hQ,h=>Qsk (Qgl E k) (Qjh E k) C st Q hQ h
theorem QkG (E:Env):∀ (k:Nat) (C:C) (st:St) (K:Qgh) (out:Out),Wn E k C st (fun e s=>K e s=some out)→ev E k C st K=some out
 | 0,_,_,_,_,h=>h.elim
 | k+1,C,st,K,out,h=>by
  have:=QoB (c:=Qch E k) (Qgl E k) (QkG E k) C st K out h
  rw [Qyo]
  exact this
def W (E:Env) (C:C) (st:St) (Q:Pst):Prop:=∃ k,Wn E k C st Q
section
variable {E:Env}
theorem QBR {C:C} {st:St} {Q Q':Pst} (h:PLe Q Q'):W E C st Q→W E C st Q':=fun ⟨k,e⟩=>⟨k,Qgl E k C st Q Q' h e⟩
def Qs (E:Env) (b:C) (Q:Pst):Pst:=fun e st=>match e with
 | .normal=>W E b st Q
 | .exit id=>Q (.exit id) st
 | .ret=>Q .ret st
def Qb (id:Nat) (Q:Pst):Pst:=fun e st=>match e with
 | .normal=>Q .normal st
 | .exit i=>if i=id then Q .normal st else Q (.exit i) st
 | .ret=>Q .ret st
def Ql (E:Env) (L:C) (Q:Pst):Pst:=fun e st=>match e with
 | .normal=>W E L st Q
 | .exit id=>Q (.exit id) st
 | .ret=>Q .ret st
def Qk (live:List Nat) (Q:Pst):Pst:=fun e st=>match e with
 | .normal=>Q .normal (forget live st)
 | .exit id=>Q (.exit id) st
 | .ret=>Q .ret st
def Qj (m:Nat) (live:List Nat) (Q:Pst):Pst:=fun e st=>match e with
 | .normal=>Q .normal (canon m live st)
 | .exit id=>Q (.exit id) st
 | .ret=>Q .ret st
def OQ (o:Option (Tm×Rs)) (nx:Nat) (Q:Pst):Prop:=∃ s,o=some s∧Q .normal ⟨s.1,s.2,nx⟩
theorem Qr8 {st:St} {Q:Pst} : W E .skip st Q=Q .normal st:=propext ⟨fun ⟨k,h⟩=>by cases k with|zero=>exact h.elim|succ k=>exact h,fun h=>⟨1,h⟩⟩
theorem Qsa {id:Nat} {st:St} {Q:Pst} : W E (.exit id) st Q=Q (.exit id) st:=propext ⟨fun ⟨k,h⟩=>by cases k with|zero=>exact h.elim|succ k=>exact h,fun h=>⟨1,h⟩⟩
theorem Qx6 {st:St} {Q:Pst} : W E .ret st Q=Q .ret st:=propext ⟨fun ⟨k,h⟩=>by cases k with|zero=>exact h.elim|succ k=>exact h,fun h=>⟨1,h⟩⟩
theorem Qzf {l:List Op'} {tm:Tm} {rs:Rs} {nx:Nat} {Q:Pst} : W E (.ops l) ⟨tm,rs,nx⟩ Q=OQ (QbB (Qao E) nx l (tm,rs)) (nx+l.length * idw) Q:=by
 refine propext ⟨fun ⟨k,h⟩ => ?_,fun ⟨s,h1,h2⟩ => ?_⟩
 ·cases k with
  | zero=>exact h.elim
  | succ k=>obtain ⟨s,h1,h2⟩:=h;exact ⟨s,Qdo (Qiv E k) h1,h2⟩
 ·obtain ⟨k,hk⟩:=QgM h1
  exact ⟨k+1,s,hk,h2⟩
theorem Qsb {sch:QcZ} {l:List Op'} {tm:Tm} {rs:Rs} {nx:Nat} {Q:Pst} : W E (.draw sch l) ⟨tm,rs,nx⟩ Q=OQ (Qcg (Qao E) nx l sch (tm,rs)) (nx+l.length * idw) Q:=by
 refine propext ⟨fun ⟨k,h⟩ => ?_,fun ⟨s,h1,h2⟩ => ?_⟩
 ·cases k with
  | zero=>exact h.elim
  | succ k=>obtain ⟨s,h1,h2⟩:=h;exact ⟨s,Qb8 (Qiv E k) h1,h2⟩
 ·obtain ⟨k,hk⟩:=QdZ h1
  exact ⟨k+1,s,hk,h2⟩
theorem Qx5 {a b:C} {st:St} {Q:Pst} : W E (.seq a b) st Q=W E a st (Qs E b Q):=by
 refine propext ⟨fun ⟨k,h⟩ => ?_,fun ⟨k,h⟩ => ?_⟩
 ·cases k with
  | zero=>exact h.elim
  | succ k =>
   refine ⟨k+1,Qgl E _ _ _ _ _ (fun e s h1 => ?_) (show Wn E (k+1) a st _ from h)⟩
   cases e with
   | normal=>exact ⟨k+1,h1⟩
   | exit id=>exact h1
   | ret=>exact h1
 ·obtain ⟨m,h2⟩:=Qjh E k a st (fun m e st'=>match e with | .normal=>Wn E m b st' Q | .exit id=>Q (.exit id) st' | .ret=>Q .ret st') (fun m e s h1=>by
   cases e with
   | normal=>exact Qgm E (Nat.le_succ m) h1
   | exit id=>exact h1
   | ret=>exact h1) (Qgl E _ _ _ _ _ (fun e s h1=>by
   cases e with
   | normal=>exact h1
   | exit id=>exact ⟨0,h1⟩
   | ret=>exact ⟨0,h1⟩) h)
  refine ⟨max k m+1, ?_⟩
  show wC _ _ _ _ _
  simp only [wC]
  refine QeO .rfl' (Qgl E (max k m)) a st _ _ (fun e s h1 => ?_) (Qgm E (Nat.le_succ_of_le (Nat.le_max_left k m)) h2)
  cases e with
  | normal=>exact Qgm E (Nat.le_succ_of_le (Nat.le_max_right k m)) h1
  | exit id=>exact h1
  | ret=>exact h1
theorem Qp3 {x:X} {a b:C} {st:St} {Q:Pst} {t:Bool} (hx:x.ev st.tm = .b t):W E (.cond x a b) st Q=if t=true then W E a st Q else W E b st Q:=by
 refine propext ⟨fun ⟨k,h⟩ => ?_,fun h => ?_⟩
 ·cases k with
  | zero=>exact h.elim
  | succ k =>
   have h':wC (Qch E k) (Wn E k) (.cond x a b) st Q:=h
   simp only [wC,hx] at h'
   cases t with
   | true=>exact ⟨k+1,h'⟩
   | false=>exact ⟨k+1,h'⟩
 ·cases t with
  | true =>
   obtain ⟨k,h⟩:=h
   refine ⟨k+1, ?_⟩
   show wC _ _ _ _ _
   simp only [wC,hx]
   exact Qem E k _ _ _ _ (fun _ _ h=>h) h
  | false =>
   obtain ⟨k,h⟩:=h
   refine ⟨k+1, ?_⟩
   show wC _ _ _ _ _
   simp only [wC,hx]
   exact Qem E k _ _ _ _ (fun _ _ h=>h) h
theorem Qon {x:X} {a b:C} {st:St} {Q:Pst} (hx:x.ev st.tm = .mb) (h1:W E a st Q) (h2:W E b st Q):W E (.cond x a b) st Q:=by
 obtain ⟨k,h1⟩:=h1
 obtain ⟨m,h2⟩:=h2
 refine ⟨max k m+1, ?_⟩
 show wC _ _ _ _ _
 simp only [wC,hx]
 exact ⟨Qgm E (Nat.le_succ_of_le (Nat.le_max_left k m)) h1,Qgm E (Nat.le_succ_of_le (Nat.le_max_right k m)) h2⟩
theorem Qoo {x:X} {a b:C} {st:St} {Q:Pst} {r off sz n:Nat} (hx:x.ev st.tm = .cv 1 r off sz n) (h1:W E a (tok x 3 r off sz n st) Q) (h2:W E b (tok x 2 r off sz n st) Q):W E (.cond x a b) st Q:=by
 obtain ⟨k,h1⟩:=h1
 obtain ⟨m,h2⟩:=h2
 refine ⟨max k m+1, ?_⟩
 show wC _ _ _ _ _
 simp only [wC,hx]
 exact ⟨Qgm E (Nat.le_succ_of_le (Nat.le_max_left k m)) h1,Qgm E (Nat.le_succ_of_le (Nat.le_max_right k m)) h2⟩
theorem Qx8 {id:Nat} {c:C} {st:St} {Q:Pst} : W E (.blk id c) st Q=W E c st (Qb id Q):=by
 refine propext ⟨fun ⟨k,h⟩ => ?_,fun ⟨k,h⟩ => ?_⟩
 ·cases k with
  | zero=>exact h.elim
  | succ k=>exact ⟨k+1,h⟩
 ·exact ⟨k+1,Qem E k c st _ _ (fun _ _ h=>h) h⟩
theorem QBn {live:List Nat} {c:C} {st:St} {Q:Pst} : W E (.kp live c) st Q=W E c st (Qk live Q):=by
 refine propext ⟨fun ⟨k,h⟩ => ?_,fun ⟨k,h⟩ => ?_⟩
 ·cases k with
  | zero=>exact h.elim
  | succ k=>exact ⟨k+1,h⟩
 ·exact ⟨k+1,Qem E k c st _ _ (fun _ _ h=>h) h⟩
theorem QBo {m:Nat} {live:List Nat} {c:C} {st:St} {Q:Pst} : W E (.jn m live c) st Q=W E c st (Qj m live Q):=by
 refine propext ⟨fun ⟨k,h⟩ => ?_,fun ⟨k,h⟩ => ?_⟩
 ·cases k with
  | zero=>exact h.elim
  | succ k=>exact ⟨k+1,h⟩
 ·exact ⟨k+1,Qem E k c st _ _ (fun _ _ h=>h) h⟩
theorem Qx7 {m:Nat} {live:List Nat} {c:C} {st:St} {Q:Pst} : W E (.loop m live c) st Q=W E c (canon m live st) (Ql E (.loop m live c) Q):=by
 refine propext ⟨fun ⟨k,h⟩ => ?_,fun ⟨k,h⟩ => ?_⟩
 ·cases k with
  | zero=>exact h.elim
  | succ k =>
   refine ⟨k+1,Qgl E _ _ _ _ _ (fun e s h1 => ?_) (show Wn E (k+1) c (canon m live st) _ from h)⟩
   cases e with
   | normal=>exact ⟨k,h1⟩
   | exit id=>exact h1
   | ret=>exact h1
 ·obtain ⟨j,h2⟩:=Qjh E k c (canon m live st) (fun j e st'=>match e with | .normal=>Wn E j (.loop m live c) st' Q | .exit id=>Q (.exit id) st' | .ret=>Q .ret st') (fun j e s h1=>by
   cases e with
   | normal=>exact Qgm E (Nat.le_succ j) h1
   | exit id=>exact h1
   | ret=>exact h1) (Qgl E _ _ _ _ _ (fun e s h1=>by
   cases e with
   | normal=>exact h1
   | exit id=>exact ⟨0,h1⟩
   | ret=>exact ⟨0,h1⟩) h)
  refine ⟨max k j+1, ?_⟩
  show wC _ _ _ _ _
  simp only [wC]
  refine QeO .rfl' (Qgl E (max k j)) c _ _ _ (fun e s h1 => ?_) (Qgm E (Nat.le_succ_of_le (Nat.le_max_left k j)) h2)
  cases e with
  | normal=>exact Qgm E (Nat.le_max_right k j) h1
  | exit id=>exact h1
  | ret=>exact h1
def Qe (F:Fn) (ds:List AV) (out:Out):Pst:=fun e st=>Qyp F ds e st=some out
theorem QpY {f:Nat} {F:Fn} {ds:List AV} {out:Out} (h0:E.ext f=none) (hF:E.fns f=some F) (hm:(Qam ds 0).2.length≤F.m) (h:W E F.body (QcU ds) (Qe F ds out)):Qao E f ds=some out:=by
 obtain ⟨k,h⟩:=h
 have:=QkG E k F.body (QcU ds) (Qyp F ds) out h
 refine Qhx (k:=k+1) ?_
 rw [Qe8]
 simp only [QdS,h0,hF,Option.bind_some,if_pos hm]
 exact Qto E k _ _ _ _ _ (fun _ _ _ h=>h) this
theorem Qoc {f:Nat} {x:Ext} {ds:List AV} {out:Out} {k:Nat} (h0:E.ext f=some x) (h:x.g (Qch E k) ds=some out):Qao E f ds=some out :=
 Qhx (k:=k+1) (by rw [Qe8];simp only [QdS,h0];exact h)
end
theorem Qjc {P:Program} (hm:P.follows .mixedOrders=true) {E:Env} (hE:Qp6 P E) {f:Nat} {ds:List AV} {out:Out} (h:Qao E f ds=some out):QbM P f=true∧Ctr P f ds out:=by
 obtain ⟨k,h⟩:=Qe7 h
 exact Qjd hm hE h
end
end Go.Proofs.YtallpjhkmcgpoaaGreat.V
end
section
namespace Go.Proofs.YtallpjhkmcgpoaaGreat.V
open Go Go.RowKit
def o (d:Nat) (i:I):Op':=⟨some d,none,[],i⟩
def og (d g:Nat) (b:Bool) (i:I):Op':=⟨some d,some (g,b),[],i⟩
def oz (d:Option Nat) (g:Option (Nat×Bool)) (s:List Nat) (i:I):Op':=⟨d,g,s,i⟩
def sqF:Nat→Nat→QcZ
 | _,0 => .done
 | k,n+1 => .take k (sqF (k+1) n)
def sq (n:Nat):QcZ:=sqF 0 n
def tk:List Nat→QcZ→QcZ
 | [],s=>s
 | k::l,s => .take k (tk l s)
theorem Qie {call:QaM} {n:Nat} {l:List Op'} : ∀ (m k:Nat) (s:Tm×Rs),k+m=l.length→Qcg call n l (sqF k m) s=QbB call (n+k * idw) (l.drop k) s
 | 0,k,s,h=>by rw [List.drop_eq_nil_of_le (by omega)];rfl
 | m+1,k,s,h=>by
  have hk:k<l.length:=by omega
  rw [List.drop_eq_getElem_cons hk]
  simp only [sqF,Qcg,List.getElem?_eq_getElem hk,Option.bind_some,QbB]
  congr 1
  funext s'
  rw [Qie m (k+1) s' (by omega),Nat.add_mul,Nat.one_mul,Nat.add_assoc]
theorem QpI {call:QaM} {n:Nat} {l:List Op'} {s:Tm×Rs} {m:Nat} (h:m=l.length):Qcg call n l (sq m) s=QbB call n l s:=by
 rw [sq,Qie m 0 s (by omega),Nat.zero_mul,Nat.add_zero,List.drop_zero]
def rsL:List (Nat×Option Qaj)→Rs
 | []=>fun _=>none
 | (r,R)::l=>up' (rsL l) r R
theorem Qub {l:List (Nat×AV)} {d:Nat} {v:AV} : up' (Qav l) d v=Qav ((d,v)::l):=(rfl)
theorem Qc1 {l:List (Nat×Option Qaj)} {r:Nat} {R:Option Qaj} : up' (rsL l) r R=rsL ((r,R)::l):=(rfl)
theorem Qjk {l:List (Nat×AV)} {d t:Nat} {v:AV} : Qav ((d,v)::l) t=if t=d then v else Qav l t:=(rfl)
theorem Qqd {t:Nat} : Qav [] t = .undef:=(rfl)
theorem QfK {l:List (Nat×Option Qaj)} {r q:Nat} {R:Option Qaj} : rsL ((r,R)::l) q=if q=r then R else rsL l q:=(rfl)
theorem Qqs {q:Nat} : rsL [] q=none:=(rfl)
theorem QbA {rs:Rs} : kill rs []=rs:=by funext r;simp [kill]
theorem Qb6 {l:List (Nat×Option Qaj)} {a:Nat} {asx:List Nat} : kill (rsL l) (a::asx)=kill (rsL ((a,none)::l)) asx:=by
 funext r;simp only [kill,List.mem_cons,QfK]
 by_cases h1:r=a
 ·simp [h1]
 ·simp [h1]
def tmA:Nat→List AV→List (Nat×AV)
 | _,[]=>[]
 | n,v::vs=>(n,v)::tmA (n+1) vs
def rsA:Nat→List (Option Qaj)→List (Nat×Option Qaj)
 | _,[]=>[]
 | n,v::vs=>(n,v)::rsA (n+1) vs
theorem QlD:∀ (l:List AV) (n t:Nat),Qav (tmA n l) t=if n≤t then l.getD (t-n) .undef else .undef
 | [],n,t=>by simp [tmA,Qav]
 | v::l,n,t=>by
  simp only [tmA,Qjk,QlD l (n+1) t]
  by_cases h:t=n
  ·subst h;simp
  ·rw [if_neg h]
   by_cases h2:n≤t
   ·rw [if_pos (by omega),if_pos h2]
    obtain ⟨m,rfl⟩:∃ m,t=n+m+1:=⟨t-n-1,by omega⟩
    have e1:n+m+1-(n+1)=m:=by omega
    have e2:n+m+1-n=m+1:=by omega
    rw [e1,e2];rfl
   ·rw [if_neg (by omega),if_neg h2]
theorem QiP:∀ (l:List (Option Qaj)) (n t:Nat),rsL (rsA n l) t=if n≤t then (l[t-n]?).join else none
 | [],n,t=>by simp [rsA,rsL]
 | v::l,n,t=>by
  simp only [rsA,QfK,QiP l (n+1) t]
  by_cases h:t=n
  ·subst h;simp
  ·rw [if_neg h]
   by_cases h2:n≤t
   ·rw [if_pos (by omega),if_pos h2]
    obtain ⟨m,rfl⟩:∃ m,t=n+m+1:=⟨t-n-1,by omega⟩
    have e1:n+m+1-(n+1)=m:=by omega
    have e2:n+m+1-n=m+1:=by omega
    rw [e1,e2];rfl
   ·rw [if_neg (by omega),if_neg h2]
theorem QoF {ds:List AV} : QcU ds=⟨Qav (tmA 0 (Qam ds 0).1),rsL (rsA 0 ((Qam ds 0).2.map some)),(Qam ds 0).2.length⟩:=by
 simp only [QcU,St.mk.injEq,and_true]
 constructor
 ·funext t;rw [QlD];simp
 ·funext t;rw [QiP];simp only [Nat.zero_le, ↓reduceIte,Nat.sub_zero,List.getElem?_map]
  cases (Qam ds 0).2[t]? <;> rfl
theorem QsM {l:List (Option Qaj)} : QsN l=rsL (rsA 0 l):=by funext t;rw [QiP];simp [QsN]
def QrN (m:Nat) (live:List Nat) (st:St):St :=
 let od:=QkW m live st
 ⟨Qav (live.map fun t=>(t,QoW st.rs od (st.tm t))),rsL (rsA 0 (od.map fun r=>(st.rs r).map fun R => { R with pv:=0 })),od.length⟩
theorem Qc {m:Nat} {live:List Nat} {st:St} : canon m live st=QrN m live st:=by simp only [canon,QrN,QsM]
def B1 (d:Nat) (tm:Tm) (r:Option (AV×Rs)) (k:Tm×Rs→Option (Tm×Rs)):Option (Tm×Rs):=r.bind fun p=>k (up' tm d p.1,p.2)
theorem Qor {d:Nat} {l:List (Nat×AV)} {v:AV} {rs:Rs} {k:Tm×Rs→Option (Tm×Rs)} : B1 d (Qav l) (some (v,rs)) k=k (Qav ((d,v)::l),rs):=(rfl)
theorem Qki {call:QaM} {n d:Nat} {g:Option (Nat×Bool)} {i:I} {tm:Tm} {rs:Rs} (h:Qcw tm g=some true):Qeo call n ⟨some d,g,[],i⟩ (tm,rs)=(evI call n tm rs i).map fun p=>(up' tm d p.1,p.2):=by
 simp only [Qeo,h,Option.bind_some, ↓reduceIte,QbE,List.length_nil,Nat.zero_le,Qcn,ite_self,QeN]
theorem Qmn {call:QaM} {n:Nat} {s:Tm×Rs} : QbB call n [] s=some s:=(rfl)
theorem QvE {call:QaM} {n d:Nat} {i:I} {os:List Op'} {tm:Tm} {rs:Rs} : QbB call n (o d i::os) (tm,rs)=B1 d tm (evI call n tm rs i) (QbB call (n+80) os):=by
 simp only [QbB,o,Qki (g:=none) rfl,B1]
 cases evI call n tm rs i <;> rfl
theorem QqO {call:QaM} {n d g:Nat} {b:Bool} {i:I} {os:List Op'} {tm:Tm} {rs:Rs} (h:tm g = .b b):QbB call n (og d g b i::os) (tm,rs)=B1 d tm (evI call n tm rs i) (QbB call (n+80) os):=by
 have hw:Qcw tm (some (g,b))=some true:=by simp [Qcw,h]
 simp only [QbB,og,Qki hw,B1]
 cases evI call n tm rs i <;> rfl
theorem QqP {call:QaM} {n d g:Nat} {b:Bool} {i:I} {os:List Op'} {l:List (Nat×AV)} {rs:Rs} (h:Qav l g = .b (!b)):QbB call n (og d g b i::os) (Qav l,rs)=QbB call (n+80) os (Qav ((d, .tup [])::l),rs):=by
 simp only [QbB,og,Qeo,Qcw,h]
 cases b <;> simp <;> rfl
theorem QqN {call:QaM} {n d g:Nat} {b:Bool} {i:I} {os:List Op'} {l:List (Nat×AV)} {rs:Rs} (h:Qav l g = .tup []):QbB call n (og d g b i::os) (Qav l,rs)=QbB call (n+80) os (Qav ((d, .tup [])::l),rs):=by
 simp only [QbB,og,Qeo,Qcw,h]
 rfl
section
variable {E:Env}
theorem Qsd {tm:Tm} {rs:Rs} {nx:Nat} {Q:Pst} : OQ (some (tm,rs)) nx Q=Q .normal ⟨tm,rs,nx⟩:=propext ⟨fun ⟨_,h1,h2⟩=>by injection h1 with h1;subst h1;exact h2,fun h=>⟨_,rfl,h⟩⟩
theorem QBs {b:C} {Q:Pst} {st:St} : Qs E b Q .normal st=W E b st Q:=(rfl)
theorem QBt {b:C} {Q:Pst} {st:St} {i:Nat} : Qs E b Q (.exit i) st=Q (.exit i) st:=(rfl)
theorem QBr {b:C} {Q:Pst} {st:St} : Qs E b Q .ret st=Q .ret st:=(rfl)
theorem QBF {i:Nat} {Q:Pst} {st:St} : Qb i Q .normal st=Q .normal st:=(rfl)
theorem QBG {i j:Nat} {Q:Pst} {st:St} : Qb i Q (.exit j) st=if j=i then Q .normal st else Q (.exit j) st:=(rfl)
theorem QBE {i:Nat} {Q:Pst} {st:St} : Qb i Q .ret st=Q .ret st:=(rfl)
theorem QBv {L:C} {Q:Pst} {st:St} : Ql E L Q .normal st=W E L st Q:=(rfl)
theorem QBw {L:C} {Q:Pst} {st:St} {i:Nat} : Ql E L Q (.exit i) st=Q (.exit i) st:=(rfl)
theorem QBu {L:C} {Q:Pst} {st:St} : Ql E L Q .ret st=Q .ret st:=(rfl)
theorem QBS {live:List Nat} {Q:Pst} {tm:Tm} {rs:Rs} {nx:Nat} : Qk live Q .normal ⟨tm,rs,nx⟩=Q .normal ⟨Qav (live.map fun t=>(t,tm t)),rs,nx⟩:=(rfl)
theorem QBy {live:List Nat} {Q:Pst} {st:St} {i:Nat} : Qk live Q (.exit i) st=Q (.exit i) st:=(rfl)
theorem QBx {live:List Nat} {Q:Pst} {st:St} : Qk live Q .ret st=Q .ret st:=(rfl)
theorem QBA {m:Nat} {live:List Nat} {Q:Pst} {st:St} : Qj m live Q .normal st=Q .normal (canon m live st):=(rfl)
theorem QBB {m:Nat} {live:List Nat} {Q:Pst} {st:St} {i:Nat} : Qj m live Q (.exit i) st=Q (.exit i) st:=(rfl)
theorem QBz {m:Nat} {live:List Nat} {Q:Pst} {st:St} : Qj m live Q .ret st=Q .ret st:=(rfl)
def WC (E:Env) (x:X) (v:AV) (a b:C) (st:St) (Q:Pst):Prop:=match v with
 | .b t=>if t=true then W E a st Q else W E b st Q
 | .mb=>W E a st Q∧W E b st Q
 | .cv 1 r off sz n=>W E a (tok x 3 r off sz n st) Q∧W E b (tok x 2 r off sz n st) Q
 | _=>False
theorem Qsc {x:X} {a b:C} {tm:Tm} {rs:Rs} {nx:Nat} {Q:Pst} : W E (.cond x a b) ⟨tm,rs,nx⟩ Q=WC E x (x.ev tm) a b ⟨tm,rs,nx⟩ Q:=by
 have no:∀ v:AV,x.ev tm=v→(∀ t,v ≠ .b t)→v ≠ .mb→(∀ r off sz n,v ≠ .cv 1 r off sz n)→W E (.cond x a b) ⟨tm,rs,nx⟩ Q=False:=fun v e h1 h2 h3=>by
  refine eq_false fun ⟨k,h⟩ => ?_
  cases k with
  | zero=>exact h.elim
  | succ k =>
   have h':wC (Qch E k) (Wn E k) (.cond x a b) ⟨tm,rs,nx⟩ Q:=h
   simp only [wC,e] at h'
 cases e:x.ev tm
 case b t=>exact Qp3 (st:=⟨tm,rs,nx⟩) e
 case mb =>
  refine propext ⟨fun ⟨k,h⟩ => ?_,fun h=>Qon e h.1 h.2⟩
  cases k with
  | zero=>exact h.elim
  | succ k =>
   have h':wC (Qch E k) (Wn E k) (.cond x a b) ⟨tm,rs,nx⟩ Q:=h
   simp only [wC,e] at h'
   exact ⟨⟨k+1,h'.1⟩,⟨k+1,h'.2⟩⟩
 case cv k r off sz n =>
  by_cases hk:k=1
  ·subst hk
   refine propext ⟨fun ⟨k,h⟩ => ?_,fun h=>Qoo e h.1 h.2⟩
   cases k with
   | zero=>exact h.elim
   | succ k =>
    have h':wC (Qch E k) (Wn E k) (.cond x a b) ⟨tm,rs,nx⟩ Q:=h
    simp only [wC,e] at h'
    exact ⟨⟨k+1,h'.1⟩,⟨k+1,h'.2⟩⟩
  ·rw [no _ e (by intro t h;cases h) (by intro h;cases h) (by intro r off sz n h;injection h with h;exact hk h)]
   unfold WC
   split
   ·rename_i h;cases h
   ·rename_i h;cases h
   ·rename_i h;injection h with h;exact absurd h hk
   ·rfl
 all_goals exact no _ e (by intro t h;cases h) (by intro h;cases h) (by intro r off sz n h;cases h)
theorem QBp {x:X} {a b:C} {st:St} {Q:Pst} : WC E x (.b true) a b st Q=W E a st Q:=(rfl)
theorem QBq {x:X} {a b:C} {st:St} {Q:Pst} : WC E x (.b false) a b st Q=W E b st Q:=(rfl)
theorem QBQ {m:Nat} {l:List Op'} {tm:Tm} {rs:Rs} {nx:Nat} {Q:Pst} (h:m=l.length):W E (.draw (sq m) l) ⟨tm,rs,nx⟩ Q=OQ (QbB (Qao E) nx l (tm,rs)) (nx+m * 80) Q:=by
 rw [Qsb,QpI h,h];rfl
theorem Qr9 {l:List Op'} {tm:Tm} {rs:Rs} {nx:Nat} {Q:Pst} : W E (.ops l) ⟨tm,rs,nx⟩ Q=OQ (QbB (Qao E) nx l (tm,rs)) (nx+l.length * 80) Q:=Qzf
end
theorem x_t {tm:Tm} {n:Nat} : X.ev tm (.t n)=tm n:=(rfl)
theorem x_k {tm:Tm} {v:AV} : X.ev tm (.k v)=v:=(rfl)
section
variable {call:QaM} {n:Nat} {tm:Tm} {rs:Rs}
theorem QAd {x:X} : evI call n tm rs (.mv x)=some (x.ev tm,rs):=(rfl)
def Qtj (c:AV) (a b:AV) (rs:Rs):Option (AV×Rs):=match c with
 | .b t=>some (if t then a else b,rs)
 | _=>none
theorem Qrq {c a b:X} : evI call n tm rs (.pick c a b)=Qtj (c.ev tm) (a.ev tm) (b.ev tm) rs:=(rfl)
theorem QqF {a b:AV} : Qtj (.b true) a b rs=some (a,rs):=(rfl)
theorem QqG {a b:AV} : Qtj (.b false) a b rs=some (b,rs):=(rfl)
def QcP (op:BinOp) (kd:Nat) (x y:AV) (rs:Rs):Option (AV×Rs):=if Qby kd x then (QeM op x y).map (·, rs) else none
theorem Qwl {op:BinOp} {kd:Nat} {x y:X} : evI call n tm rs (.bin op kd x y)=QcP op kd (x.ev tm) (y.ev tm) rs:=(rfl)
theorem QxU {k:IntKind} {x y:Int} : QcP .add 0 (.i k x) (.i k y) rs=some (.i k (k.wrap (x+y)),rs):=by simp [QcP,Qby,QeM,QbF,QbD]
theorem QxC {k:IntKind} {x y:Int} : QcP .sub 0 (.i k x) (.i k y) rs=some (.i k (k.wrap (x-y)),rs):=by simp [QcP,Qby,QeM,QbF,QbD]
theorem QxK {k:IntKind} {x y:Int} : QcP .mul 0 (.i k x) (.i k y) rs=some (.i k (k.wrap (x * y)),rs):=by simp [QcP,Qby,QeM,QbF,QbD]
theorem QxL {k:IntKind} {x y:Int} : QcP .lss 0 (.i k x) (.i k y) rs=some (.b (decide (x<y)),rs):=by simp [QcP,Qby,QeM,QbF,QbD,QkF]
theorem QxM {k:IntKind} {x y:Int} : QcP .leq 0 (.i k x) (.i k y) rs=some (.b (decide (x≤y)),rs):=by simp [QcP,Qby,QeM,QbF,QbD,QkF]
theorem QxN {k:IntKind} {x y:Int} : QcP .gtr 0 (.i k x) (.i k y) rs=some (.b (decide (x > y)),rs):=by simp [QcP,Qby,QeM,QbF,QbD,QkF]
theorem QxO {k:IntKind} {x y:Int} : QcP .geq 0 (.i k x) (.i k y) rs=some (.b (decide (x≥y)),rs):=by simp [QcP,Qby,QeM,QbF,QbD,QkF]
theorem QxQ {k:IntKind} {x y:Int} : QcP .eql 0 (.i k x) (.i k y) rs=some (.b (decide (x=y)),rs):=by simp [QcP,Qby,QeM,QbF,QbD,QkF]
theorem QxI {k:IntKind} {x y:Int} : QcP .neq 0 (.i k x) (.i k y) rs=some (.b (!decide (x=y)),rs):=by simp [QcP,Qby,QeM,QbF,QbD,QkF]
theorem wrap_i64 {x:Int} : IntKind.wrap .i64 x=wrap64 x:=Go.IntKind.wrap_i64 x
def Qym (s:Bool) (x:AV) (rs:Rs):Option (AV×Rs):=match x with
 | .s x=>if s then some (.i .i64 x.size,rs) else none
 | .slc _ _ _ _ _ len=>if s then none else some (.i .i64 len,rs)
 | .nl _=>if s then none else some (.i .i64 0,rs)
 | _=>none
theorem Qwf {s:Bool} {x:X} : evI call n tm rs (.len s x)=Qym s (x.ev tm) rs:=(rfl)
theorem Qv4 {r:Nat} {q:QaO} {pv sz off len:Nat} : Qym false (.slc r q pv sz off len) rs=some (.i .i64 len,rs):=(rfl)
theorem Qv3 {sz:Nat} : Qym false (.nl sz) rs=some (.i .i64 0,rs):=(rfl)
theorem Qv2 {x:ByteArray} : Qym true (.s x) rs=some (.i .i64 x.size,rs):=(rfl)
def Qnw (sz:Nat) (x j:AV) (rs:Rs):Option (AV×Rs):=match x,j with
 | .slc r q pv sz' off len, .i _ n=>if sz'=sz∧0≤n∧n<len then some (.ptr r q pv (off+n.toNat) 0,rs) else none
 | _,_=>none
theorem Qne {sz:Nat} {x j:X} : evI call n tm rs (.iaddr sz x j)=Qnw sz (x.ev tm) (j.ev tm) rs:=(rfl)
theorem Qna {sz r:Nat} {q:QaO} {pv off len:Nat} {k:IntKind} {j:Int} (h1:0≤j) (h2:j<(len:Int)):Qnw sz (.slc r q pv sz off len) (.i k j) rs=some (.ptr r q pv (off+j.toNat) 0,rs):=by
 simp only [Qnw];rw [if_pos ⟨trivial,h1,h2⟩]
def Qnx (off:Nat) (x:AV) (rs:Rs):Option (AV×Rs):=match x with
 | .ptr r q pv i c=>some (.ptr r q pv i (c+off),rs)
 | .bx cs c=>some (.bx cs (c+off),rs)
 | _=>none
theorem Qng {off:Nat} {x:X} : evI call n tm rs (.faddr off x)=Qnx off (x.ev tm) rs:=(rfl)
theorem Qnu {off c:Nat} {cs:List AV} : Qnx off (.bx cs c) rs=some (.bx cs (c+off),rs):=(rfl)
theorem Qnv {off r:Nat} {q:QaO} {pv i c:Nat} : Qnx off (.ptr r q pv i c) rs=some (.ptr r q pv i (c+off),rs):=(rfl)
def Qf2 (k:Option Nat) (a:AV) (rs:Rs):Option (AV×Rs):=match a with
 | .ptr r q pv i c=>(QcV rs r q pv).bind fun (R,_,_,xs)=>(xs[i]?).bind fun el=>(QdK r q R.pv i c el k).map (·, rs)
 | .bx cs c=>(Qd1 cs c k).map (·, rs)
 | _=>none
theorem Qrs {k:Option Nat} {a:X} : evI call n tm rs (.load k a)=Qf2 k (a.ev tm) rs:=(rfl)
def QfT (k:Option Nat) (r:Nat) (q:QaO) (pv i c:Nat) (el:Option (List AV)) (rs:Rs):Option (AV×Rs):=el.bind fun el=>(QdK r q pv i c el k).map (·, rs)
def QmD (k:Option Nat) (r i c:Nat) (R:Option Qaj) (rs:Rs):Option (AV×Rs):=match R with
 | some R=>QfT k r [] R.pv i c R.xs[i]? rs
 | none=>none
theorem Qq2 {k:Option Nat} {r pv i c:Nat} : Qf2 k (.ptr r [] pv i c) rs=QmD k r i c (rs r) rs:=by
 simp only [Qf2,QcV,QmD]
 cases rs r <;> rfl
theorem QfQ {k:Option Nat} {r i c sz pv:Nat} {own:Bool} {xs:Els} : QmD k r i c (some ⟨own,sz,pv,xs⟩) rs=QfT k r [] pv i c xs[i]? rs:=(rfl)
theorem Qk0 {r i c pv:Nat} {q:QaO} {el:List AV} : QfT none r q pv i c (some el) rs=((el[c]?).map fun v=>QdE r q pv i c v).map (·, rs):=(rfl)
end
theorem Qte {α:Type} {e:α→List AV} {l:List α} {z:α} {j:Int} (h1:0≤j) (h2:j<(l.length:Int)):(l.map e)[0+j.toNat]? = some (e (l.getD j.toNat z)):=by
 have h:j.toNat<l.length:=by omega
 rw [Nat.zero_add,List.getElem?_map,List.getElem?_eq_getElem h,List.getD_eq_getElem?_getD,List.getElem?_eq_getElem h];rfl
theorem Qq8 {r:Nat} {q:QaO} {pv i c:Nat} {k:IntKind} {x:Int} : QdE r q pv i c (.i k x) = .i k x:=(rfl)
theorem Qra {r:Nat} {q:QaO} {pv i c:Nat} {x:Bool} : QdE r q pv i c (.b x) = .b x:=(rfl)
theorem Qq6 {r:Nat} {q:QaO} {pv i c:Nat} {x:ByteArray} : QdE r q pv i c (.s x) = .s x:=(rfl)
end Go.Proofs.YtallpjhkmcgpoaaGreat.V
end
section
namespace Go.Proofs.YtallpjhkmcgpoaaGreat.V
open Go Go.RowKit
theorem Qad {α:Type} {c:Prop} [Decidable c] {a b:Option α} {r:α} (h:(if c then a else b)=some r):c∧a=some r∨¬c∧b=some r:=by
 by_cases hc:c
 ·rw [if_pos hc] at h;exact .inl ⟨hc,h⟩
 ·rw [if_neg hc] at h;exact .inr ⟨hc,h⟩
theorem Qco {α:Type} {c:Prop} [Decidable c] {a:Option α} {r:α} (h:(if c then a else none)=some r):c∧a=some r:=by
 by_cases hc:c
 ·rw [if_pos hc] at h;exact ⟨hc,h⟩
 ·rw [if_neg hc] at h;cases h
theorem Qp {α β:Type} {a:Option α} {g:α→Option β} {r:β} (h:a.bind g=some r):∃ t,a=some t∧g t=some r:=Option.bind_eq_some_iff.1 h
theorem Qci {α β:Type} {a:α} {g:α→Option β} {r:β} (h:(some a).bind g=some r):∃ y,a=y∧g y=some r:=⟨a,rfl,h⟩
def eI (n:Int):List AV:=[.i .i64 n]
def e8 (n:Int):List AV:=[.i .u8 n]
def eB (b:Bool):List AV:=[.b b]
def eS (s:ByteArray):List AV:=[.s s]
def eL {α:Type} (sz:Nat) (b:Bool) (e:α→List AV) (l:List α):List AV:=[.deep false b sz (l.map e)]
theorem QgY {α:Type} {e:α→List AV} {l:List α} : wnd (l.map e) 0 l.length=l.map e:=by
 rw [wnd,List.drop_zero,List.take_of_length_le (by simp)]
theorem Qlw {n:Nat} : wnd [] 0 n=[]:=by simp [wnd]
theorem QcT {α:Type} {e:α→List AV} {l:List α} {off n:Nat} {v:List α} (h:(l.drop off).take n=v):wnd (l.map e) off n=v.map e:=by
 rw [wnd, ←List.map_drop, ←List.map_take,h]
theorem Qhi {α:Type} {e:α→List AV} {l:List α} : (l.map e).length=l.length:=by simp
theorem Qb1 {α:Type} {e:α→List AV} {l:List α} {z:α} {j:Int} (h1:0≤j) (h2:j<(l.length:Int)):(l.map e)[0+j.toNat]? = some (e (l.getD j.toNat z)):=Qte h1 h2
theorem Qf0 {α:Type} {e:α→List AV} {l v:List α} {off n:Nat} {z:α} {j:Int} (hw:(l.drop off).take n=v) (h1:0≤j) (h2:j<(v.length:Int)):(l.map e)[off+j.toNat]? = some (e (v.getD j.toNat z)):=by
 have h:j.toNat<v.length:=by omega
 subst hw
 have h':=h
 rw [List.length_take,List.length_drop] at h'
 rw [List.getElem?_map,List.getD_eq_getElem?_getD,List.getElem?_take_of_lt (by omega),List.getElem?_drop,List.getElem?_eq_getElem (by omega)]
 rfl
theorem Qc0 {α:Type} {e:α→List AV} {l:List α} {j:Int} {c:Nat} {vs:List AV} {x y:α} (h1:0≤j) (h2:j<(l.length:Int)) (hx:l[j.toNat]? = some x) (hy:(e x).take c++vs++(e x).drop (c+vs.length)=e y):QaY (l.map e) (0+j.toNat) c vs=(l.set j.toNat y).map e:=by
 have h:j.toNat<l.length:=by omega
 rw [QaY,Nat.zero_add,List.getElem?_map,hx]
 simp only [Option.map_some]
 rw [hy,List.map_set]
theorem QbG {α:Type} {l:List α} {z:α} {j:Int} (h1:0≤j) (h2:j<(l.length:Int)):l[j.toNat]? = some (l.getD j.toNat z):=by
 have h:j.toNat<l.length:=by omega
 rw [List.getD_eq_getElem?_getD,List.getElem?_eq_getElem h];rfl
section
variable {call:QaM} {n:Nat} {tm:Tm} {rs:Rs}
theorem QxT {k:IntKind} {x y:Int} : QcP .and 0 (.i k x) (.i k y) rs=some (.i k (Go.bits .and k x y),rs):=by simp [QcP,Qby,QeM,QbF,QbD,Go.bits]
theorem QBh {k:IntKind} {x y:Int} : QcP .or 0 (.i k x) (.i k y) rs=some (.i k (Go.bits .or k x y),rs):=by simp [QcP,Qby,QeM,QbF,QbD,Go.bits]
theorem QxB {k:IntKind} {x y:Int} : QcP .xor 0 (.i k x) (.i k y) rs=some (.i k (Go.bits .xor k x y),rs):=by simp [QcP,Qby,QeM,QbF,QbD,Go.bits]
def shl (k:IntKind) (x y:Int):Int:=k.wrap (x * 2 ^ min y.toNat k.bits)
def shr (k:IntKind) (x y:Int):Int:=x.fdiv (2 ^ min y.toNat k.bits)
theorem QxE {k k':IntKind} {x y:Int} (h:0≤y):QcP .shl 0 (.i k x) (.i k' y) rs=some (.i k (shl k x y),rs):=by simp [QcP,Qby,QeM,QbF,QiA,shl,Int.not_lt.2 h]
theorem QxD {k k':IntKind} {x y:Int} (h:0≤y):QcP .shr 0 (.i k x) (.i k' y) rs=some (.i k (shr k x y),rs):=by simp [QcP,Qby,QeM,QbF,QiA,shr,Int.not_lt.2 h]
theorem QxG {k:IntKind} {x y:Int} (h:y≠0):QcP .quo 0 (.i k x) (.i k y) rs=some (.i k (k.wrap (x.tdiv y)),rs):=by simp [QcP,Qby,QeM,QbF,QbD,h]
theorem QxF {k:IntKind} {x y:Int} (h:y≠0):QcP .rem 0 (.i k x) (.i k y) rs=some (.i k (x.tmod y),rs):=by simp [QcP,Qby,QeM,QbF,QbD,h]
theorem QxR {x y:Bool} : QcP .eql 1 (.b x) (.b y) rs=some (.b (decide (x=y)),rs):=by simp [QcP,Qby,QeM]
theorem QxJ {x y:Bool} : QcP .neq 1 (.b x) (.b y) rs=some (.b (!decide (x=y)),rs):=by simp [QcP,Qby,QeM]
theorem QxP {x y:ByteArray} : QcP .eql 0 (.s x) (.s y) rs=some (.b (decide (x=y)),rs):=by simp [QcP,Qby,QeM]
theorem QxH {x y:ByteArray} : QcP .neq 0 (.s x) (.s y) rs=some (.b (!decide (x=y)),rs):=by simp [QcP,Qby,QeM]
theorem QxS {x y:ByteArray} (h:x.size+y.size≤9223372036854775807):QcP .add 0 (.s x) (.s y) rs=some (.s (x++y),rs):=by simp [QcP,Qby,QeM,h]
theorem QrY {r:Nat} {q:QaO} {pv sz off len sz':Nat} : QcP .eql 2 (.slc r q pv sz off len) (.nl sz') rs=some (QiZ len,rs):=by simp [QcP,Qby,QeM]
theorem QrZ {sz sz':Nat} : QcP .eql 2 (.nl sz) (.nl sz') rs=some (.b true,rs):=by simp [QcP,Qby,QeM]
def fUn (op:UnOp) (x:AV) (rs:Rs):Option (AV×Rs):=(aUn op x).map (·, rs)
theorem QAc {op:UnOp} {x:X} : evI call n tm rs (.un op x)=fUn op (x.ev tm) rs:=(rfl)
theorem Qqb {x:Bool} : fUn .not (.b x) rs=some (.b (!x),rs):=(rfl)
theorem Qqc {k:IntKind} {x:Int} : fUn .neg (.i k x) rs=some (.i k (k.wrap (0-x)),rs):=(rfl)
def QwG (k:IntKind) (x:AV) (rs:Rs):Option (AV×Rs):=match x with
 | .i _ n=>some (.i k (k.wrap n),rs)
 | _=>none
theorem Qru {k:IntKind} {x:X} : evI call n tm rs (.conv k x)=QwG k (x.ev tm) rs:=(rfl)
theorem QrI {k k':IntKind} {x:Int} : QwG k (.i k' x) rs=some (.i k (k.wrap x),rs):=(rfl)
theorem Qls {x:Int} : IntKind.wrap .u8 x=x % 256:=by simp [IntKind.wrap,IntKind.bits,IntKind.signed]
def Qpv (x:AV) (rs:Rs):Option (AV×Rs):=match x with
 | .ptr r q pv i c=>some (.ptr r q pv i c,rs)
 | .fn f cs=>some (.fn f cs,rs)
 | .bx cs c=>some (.bx cs c,rs)
 | _=>none
theorem Qrr {x:X} : evI call n tm rs (.nilc x)=Qpv (x.ev tm) rs:=(rfl)
theorem QqV {r:Nat} {q:QaO} {pv i c:Nat} : Qpv (.ptr r q pv i c) rs=some (.ptr r q pv i c,rs):=(rfl)
theorem QqW {f:Nat} {cs:List AV} : Qpv (.fn f cs) rs=some (.fn f cs,rs):=(rfl)
theorem QqU {cs:List AV} {c:Nat} : Qpv (.bx cs c) rs=some (.bx cs c,rs):=(rfl)
def fMm (m:Bool) (x:AV) (xs:List AV) (rs:Rs):Option (AV×Rs):=(Qpd m x xs).map (·, rs)
theorem QBO {m:Bool} {x:X} {xs:List X} : evI call n tm rs (.mm m (x::xs))=fMm m (x.ev tm) (xs.map (·.ev tm)) rs:=(rfl)
def mx (a b:Int):Int:=if a<b then b else a
def mn (a b:Int):Int:=if b<a then b else a
theorem QqX {m:Bool} {v:AV} : fMm m v [] rs=some (v,rs):=(rfl)
theorem Qz8 {k:IntKind} {a b:Int} {l:List AV} : fMm true (.i k a) (.i k b::l) rs=fMm true (.i k (mx a b)) l rs:=by simp [fMm,Qpd,mx]
theorem Qz9 {k:IntKind} {a b:Int} {l:List AV} : fMm false (.i k a) (.i k b::l) rs=fMm false (.i k (mn a b)) l rs:=by simp [fMm,Qpd,mn]
def Qtk (x j:AV) (rs:Rs):Option (AV×Rs):=match x,j with
 | .s x, .i _ n=>if 0≤n∧n<x.size then some (.i .u8 ((x.toList.getD n.toNat 0).toNat:Nat),rs) else none
 | _,_=>none
theorem Qrt {x j:X} : evI call n tm rs (.idxS x j)=Qtk (x.ev tm) (j.ev tm) rs:=(rfl)
def bt (s:ByteArray) (i:Int):Int:=if h:i.toNat<s.size then ((s[i.toNat]'h).toNat:Int) else 0
theorem QkJ (s:ByteArray):s.toList.length=s.size:=by rw [ByteArray.toList_eq,Array.length_toList];rfl
theorem Qrk {x:ByteArray} {k:IntKind} {j:Int} (h1:0≤j) (h2:j<(x.size:Int)):Qtk (.s x) (.i k j) rs=some (.i .u8 (bt x j),rs):=by
 have h:j.toNat<x.size:=by omega
 simp only [Qtk]
 rw [if_pos ⟨h1,h2⟩,bt,dif_pos h]
 have e:x.toList.getD j.toNat 0=x[j.toNat]:=by
  rw [List.getD_eq_getElem?_getD,List.getElem?_eq_getElem (by rw [QkJ];exact h),Option.getD_some]
  simp [ByteArray.getElem_eq_getElem_data,ByteArray.toList_eq]
 rw [e]
def Qeh (x:AV) (lo hi:Option AV) (rs:Rs):Option (AV×Rs):=match x with
 | .s x=>(bndv x.size hi x.size).bind fun h=>(bndv h lo 0).map fun l=>(.s (x.extract l h),rs)
 | _=>none
where bndv (hi:Nat):Option AV→Nat→Option Nat
 | none,d=>some d
 | some v,_=>match v with
  | .i _ n=>if 0≤n∧n≤hi then some n.toNat else none
  | _=>none
theorem QpZ {hi d:Nat} {x:Option X} : bnd tm hi x d=Qeh.bndv hi (x.map (·.ev tm)) d:=by cases x <;> rfl
theorem QyK {x:X} {lo hi:Option X} : evI call n tm rs (.slS x lo hi)=Qeh (x.ev tm) (lo.map (·.ev tm)) (hi.map (·.ev tm)) rs:=by
 simp only [evI,Qeh,QpZ]
 cases x.ev tm <;> rfl
theorem QuI {x:ByteArray} {k:IntKind} {l:Int} (h1:0≤l) (h2:l≤(x.size:Int)):Qeh (.s x) (some (.i k l)) none rs=some (.s (x.extract l.toNat x.size),rs):=by
 simp [Qeh,Qeh.bndv,h1,h2]
theorem QuJ {x:ByteArray} {k:IntKind} {h:Int} (h1:0≤h) (h2:h≤(x.size:Int)):Qeh (.s x) none (some (.i k h)) rs=some (.s (x.extract 0 h.toNat),rs):=by
 simp [Qeh,Qeh.bndv,h1,h2]
theorem Qqj {x:ByteArray} {k k':IntKind} {l h:Int} (h0:0≤l) (h1:l≤h) (h2:h≤(x.size:Int)):Qeh (.s x) (some (.i k l)) (some (.i k' h)) rs=some (.s (x.extract l.toNat h.toNat),rs):=by
 have e:0≤h:=by omega
 have e2:l≤((h.toNat:Nat):Int):=by omega
 simp only [Qeh,Qeh.bndv,if_pos (show 0≤h∧h≤(x.size:Int) from ⟨e,h2⟩),Option.bind_some,if_pos (show 0≤l∧l≤((h.toNat:Nat):Int) from ⟨h0,e2⟩),Option.map_some]
theorem QrE:QbC [] [] []=some true:=(rfl)
theorem QAP {ks:List Nat} {k:IntKind} {x y:Int} {xs ys:List AV} : QbC (0::ks) (.i k x::xs) (.i k y::ys)=(QbC ks xs ys).map fun r=>decide (x=y) && r:=by simp [QbC]
theorem QAO {ks:List Nat} {x y:Bool} {xs ys:List AV} : QbC (1::ks) (.b x::xs) (.b y::ys)=(QbC ks xs ys).map fun r=>decide (x=y) && r:=by simp [QbC]
theorem QAN {ks:List Nat} {x y:ByteArray} {xs ys:List AV} : QbC (2::ks) (.s x::xs) (.s y::ys)=(QbC ks xs ys).map fun r=>decide (x=y) && r:=by simp [QbC]
def QwC (neg:Bool) (ks:List Nat) (x y:AV) (rs:Rs):Option (AV×Rs):=match x,y with
 | .agg xs, .agg ys=>gEqA neg (QbC ks xs ys) rs
 | _,_=>none
where gEqA (neg:Bool) (r:Option Bool) (rs:Rs):Option (AV×Rs):=r.map fun r=>(.b (if neg then !r else r),rs)
theorem Qwh {neg:Bool} {ks:List Nat} {x y:X} : evI call n tm rs (.eqA neg ks x y)=QwC neg ks (x.ev tm) (y.ev tm) rs:=(rfl)
theorem QwP {neg:Bool} {ks:List Nat} {xs ys:List AV} : QwC neg ks (.agg xs) (.agg ys) rs=QwC.gEqA neg (QbC ks xs ys) rs:=(rfl)
theorem QwN {r:Bool} : QwC.gEqA true (some r) rs=some (.b (!r),rs):=(rfl)
theorem QwO {r:Bool} : QwC.gEqA false (some r) rs=some (.b r,rs):=(rfl)
def Qtm (tm:Tm) (cs:List AV) (ps:List (Nat×Nat×X)) (rs:Rs):Option (AV×Rs):=(Qdq tm cs ps).map fun cs=>(.agg cs,rs)
theorem Qni {z:List AV} {ps:List (Nat×Nat×X)} : evI call n tm rs (.build z ps)=Qtm tm z ps rs:=(rfl)
theorem Qoh {cs:List AV} : Qtm tm cs [] rs=some (.agg cs,rs):=(rfl)
def Qk5 (tm:Tm) (cs:List AV) (o k:Nat) (v:AV) (ps:List (Nat×Nat×X)) (rs:Rs):Option (AV×Rs) :=
 if Qh9 v=true∧v.cells.length=k∧o+k≤cs.length then Qtm tm (putCells cs o v.cells) ps rs else none
theorem Qky {cs:List AV} {o k:Nat} {x:X} {ps:List (Nat×Nat×X)} : Qtm tm cs ((o,k,x)::ps) rs=Qk5 tm cs o k (x.ev tm) ps rs:=by
 simp only [Qtm,Qdq,Qk5];split <;> rfl
def Qta:AV→Bool
 | .fn _ _ | .tup _ | .undef | .agg _ | .bx _ _=>false
 | _=>true
theorem Qxs {cs:List AV} {o:Nat} {v:AV} {ps:List (Nat×Nat×X)} (hv:Qta v=true) (h:o<cs.length):Qk5 tm cs o 1 v ps rs=Qtm tm (cs.set o v) ps rs:=by
 have h':o+1≤cs.length:=h
 cases v <;> first|(simp [Qta] at hv;done)|simp [Qk5,Qh9,AV.cells,putCells,h']
theorem Qxr {cs:List AV} {o k:Nat} {vs:List AV} {ps:List (Nat×Nat×X)} (h1:vs.length=k) (h:o+k≤cs.length):Qk5 tm cs o k (.agg vs) ps rs=Qtm tm (putCells cs o vs) ps rs:=by
 simp [Qk5,Qh9,AV.cells,h1,h]
theorem Ql9 {cs:List AV} {o:Nat} : putCells cs o []=cs:=(rfl)
theorem QjC {cs:List AV} {o:Nat} {v:AV} {vs:List AV} : putCells cs o (v::vs)=putCells (cs.set o v) (o+1) vs:=(rfl)
def Qkg (off:Nat) (k:Option Nat) (x:AV) (rs:Rs):Option (AV×Rs):=match x with
 | .agg cs=>(Qd1 cs off k).map (·, rs)
 | _=>none
theorem Qnf {off:Nat} {k:Option Nat} {x:X} : evI call n tm rs (.field off k x)=Qkg off k (x.ev tm) rs:=(rfl)
def Qms (v:Option AV) (rs:Rs):Option (AV×Rs):=v.map (·, rs)
theorem Qmr {v:AV} : Qms (some v) rs=some (v,rs):=(rfl)
theorem QqZ {c:Nat} {cs:List AV} : Qf2 none (.bx cs c) rs=Qms cs[c]? rs:=(rfl)
theorem QmB {c k:Nat} {cs:List AV} (h:c+k≤cs.length):Qf2 (some k) (.bx cs c) rs=some (.agg ((cs.drop c).take k),rs):=by simp [Qf2,Qd1,h]
theorem Qnt {off:Nat} {cs:List AV} : Qkg off none (.agg cs) rs=Qms cs[off]? rs:=(rfl)
theorem Qns {off k:Nat} {cs:List AV} (h:off+k≤cs.length):Qkg off (some k) (.agg cs) rs=some (.agg ((cs.drop off).take k),rs):=by simp [Qkg,Qd1,h]
def QAM (j:Nat) (x:AV) (rs:Rs):Option (AV×Rs):=match x with
 | .tup vs=>Qms vs[j]? rs
 | _=>none
theorem Qwg {j:Nat} {x:X} : evI call n tm rs (.ext j x)=QAM j (x.ev tm) rs:=(rfl)
theorem QwI {j:Nat} {vs:List AV} : QAM j (.tup vs) rs=Qms vs[j]? rs:=(rfl)
def Qs8 (r:Nat) (q:QaO) (pv i c:Nat) (v:Option AV) (rs:Rs):Option (AV×Rs):=v.map fun v=>(QdE r q pv i c v,rs)
theorem Qq3 {r i c pv:Nat} {q:QaO} {el:List AV} : QfT none r q pv i c (some el) rs=Qs8 r q pv i c el[c]? rs:=by
 simp only [Qk0,Qs8,Option.map_map];rfl
theorem Qm2 {r i c pv:Nat} {q:QaO} {v:AV} : Qs8 r q pv i c (some v) rs=some (QdE r q pv i c v,rs):=(rfl)
theorem Qq1 {r i c pv k:Nat} {q:QaO} {v:AV} {vs:List AV} (h:c+k≤(v::vs).length):QfT (some k) r q pv i c (some (v::vs)) rs=some (.agg (Qfl r q pv i c (((v::vs).drop c).take k)),rs):=by
 have h':c+k≤vs.length+1:=h
 simp [QfT,QdK,h']
theorem Qh6 {r i c pv:Nat} {q:QaO} : Qfl r q pv i c []=[]:=(rfl)
theorem QgD {r i c pv:Nat} {q:QaO} {v:AV} {vs:List AV} : Qfl r q pv i c (v::vs)=QdE r q pv i c v::Qfl r q pv i (c+1) vs:=(rfl)
theorem Qq9 {r:Nat} {q:QaO} {pv i c:Nat} {b:Bool} {sz:Nat} {xs:Els} : QdE r q pv i c (.deep false b sz xs) = .slc r (q++[(i,c)]) pv sz 0 xs.length:=(rfl)
theorem Qq7 {r:Nat} {q:QaO} {pv i c:Nat} {b:Bool} {sz:Nat} {xs:Els} : QdE r q pv i c (.deep true b sz xs) = .ptr r (q++[(i,c)]) pv 0 0:=(rfl)
def lkP (k:Option Nat) (r pv i c:Nat) (j:Nat) (d:Nat) (R:Option Qaj) (rs:Rs):Option (AV×Rs):=match R with
 | some R=>if pv=R.pv then lkD k r R.pv i c j d (QW R.xs i c) rs else none
 | none=>none
where lkD (k:Option Nat) (r pv i c:Nat) (j:Nat) (d:Nat) (v:Option AV) (rs:Rs):Option (AV×Rs):=match v with
 | some (.deep _ _ _ ys)=>QfT k r [(i,c)] pv j d ys[j]? rs
 | _=>none
theorem Qq0 {k:Option Nat} {r pv i c j d:Nat} : Qf2 k (.ptr r [(i,c)] pv j d) rs=lkP k r pv i c j d (rs r) rs:=by
 simp only [Qf2,QcV,lkP]
 cases e:rs r with
 | none=>rfl
 | some R =>
  simp only [Option.bind_some,Qaj.arr]
  by_cases h:pv=R.pv
  ·rw [if_pos h,if_pos h]
   simp only [QaB,lkP.lkD]
   cases QW R.xs i c with
   | none=>rfl
   | some v=>cases v <;> rfl
  ·rw [if_neg h,if_neg h];rfl
theorem QjJ {k:Option Nat} {r i c j d sz pv:Nat} {own:Bool} {xs:Els} : lkP k r pv i c j d (some ⟨own,sz,pv,xs⟩) rs=lkP.lkD k r pv i c j d (QW xs i c) rs:=by simp [lkP]
theorem QjK {k:Option Nat} {r i c j d sz pv:Nat} {p b:Bool} {ys:Els} : lkP.lkD k r pv i c j d (some (.deep p b sz ys)) rs=QfT k r [(i,c)] pv j d ys[j]? rs:=(rfl)
theorem Qku {xs:Els} {i c:Nat} {el:List AV} (h:xs[i]? = some el):QW xs i c=el[c]? := by simp [QW,h]
theorem QrK {el:List AV} {l:Els} {c:Nat} : QW (el::l) 0 c=el[c]? := (rfl)
theorem QhN:Qdf rs []=some ([],[]):=(rfl)
def sk1 (a:Option (AV×List Nat)) (rs:Rs) (vs:List AV):Option (List AV×List Nat):=a.bind fun a=>(Qdf rs vs).map fun b=>(a.1::b.1,a.2++b.2)
theorem Qgy {v:AV} {vs:List AV} : Qdf rs (v::vs)=sk1 (Qjq rs v) rs vs:=(rfl)
def sk2 (c:AV) (a:List Nat) (b:Option (List AV×List Nat)):Option (List AV×List Nat):=b.map fun b=>(c::b.1,a++b.2)
theorem QuT {c:AV} {a:List Nat} {vs:List AV} : sk1 (some (c,a)) rs vs=sk2 c a (Qdf rs vs):=(rfl)
theorem QuS {c:AV} {a b:List Nat} {cs:List AV} : sk2 c a (some (cs,b))=some (c::cs,a++b):=(rfl)
theorem Qqp {x:Bool} : Qjq rs (.b x)=some (.b x,[]):=(rfl)
theorem Qqo {k:IntKind} {x:Int} : Qjq rs (.i k x)=some (.i k x,[]):=(rfl)
theorem Qql {x:ByteArray} : Qjq rs (.s x)=some (.s x,[]):=(rfl)
theorem QlN {sz:Nat} : Qjq rs (.nl sz)=some (.deep false false sz [],[]):=(rfl)
def skR (r:Nat) (sz off len:Nat) (R:Option Qaj):Option (AV×List Nat):=match R with
 | some R=>if R.own then some (.deep false false sz (wnd R.xs off len),[r]) else some (.deep false true sz (wnd R.xs off len),[])
 | none=>none
theorem Qqm {r pv sz off len:Nat} : Qjq rs (.slc r [] pv sz off len)=skR r sz off len (rs r):=by
 simp only [Qjq,QcV,skR]
 cases rs r with
 | none=>rfl
 | some R=>obtain ⟨o,s,p,x⟩:=R;cases o <;> simp [Qaj.arr]
theorem QuQ {r sz off len pv sz':Nat} {xs:Els} : skR r sz off len (some ⟨true,sz',pv,xs⟩)=some (.deep false false sz (wnd xs off len),[r]):=(rfl)
theorem QuP {r sz off len pv sz':Nat} {xs:Els} : skR r sz off len (some ⟨false,sz',pv,xs⟩)=some (.deep false true sz (wnd xs off len),[]):=(rfl)
theorem Qob {cs:List AV} : AV.cells (.agg cs)=cs:=(rfl)
theorem Qoa {x:Bool} : AV.cells (.b x)=[.b x]:=(rfl)
theorem Qn8 {k:IntKind} {x:Int} : AV.cells (.i k x)=[.i k x]:=(rfl)
theorem Qn6 {x:ByteArray} : AV.cells (.s x)=[.s x]:=(rfl)
theorem Qn7 {sz:Nat} : AV.cells (.nl sz)=[.nl sz]:=(rfl)
theorem Qn9 {r:Nat} {q:QaO} {pv sz off len:Nat} : AV.cells (.slc r q pv sz off len)=[.slc r q pv sz off len]:=(rfl)
def QyU (n k:Nat) (a:Option (List AV×List Nat)) (rs:Rs):Option (AV×Rs):=a.bind fun (vs,asx) =>
 if vs.length=k∧asx.Nodup then some (.ptr n [] 0 0 0,up' (kill rs asx) n (some ⟨true,k,0,[vs]⟩)) else none
def QtY (v:AV) (rs:Rs):Option (AV×Rs):=if Qh9 v=true then some (.bx v.cells 0,rs) else none
theorem Qrv {x:X} : evI call n tm rs (.boxK x)=QtY (x.ev tm) rs:=(rfl)
theorem Qxn {cs:List AV} : QtY (.agg cs) rs=some (.bx cs 0,rs):=(rfl)
theorem Qxl {k:IntKind} {x:Int} : QtY (.i k x) rs=some (.bx [.i k x] 0,rs):=(rfl)
theorem Qxm {x:Bool} : QtY (.b x) rs=some (.bx [.b x] 0,rs):=(rfl)
theorem Qxj {x:ByteArray} : QtY (.s x) rs=some (.bx [.s x] 0,rs):=(rfl)
theorem Qxk {r:Nat} {q:QaO} {pv sz off len:Nat} : QtY (.slc r q pv sz off len) rs=some (.bx [.slc r q pv sz off len] 0,rs):=(rfl)
theorem Qwk {k:Nat} {x:X} : evI call n tm rs (.box k x)=QyU n k (Qdf rs (x.ev tm).cells) rs:=(rfl)
theorem Qxp {k:Nat} {vs:List AV} {asx:List Nat} {l:List (Nat×Option Qaj)} (h:(vs.length == k && decide asx.Nodup)=true):QyU n k (some (vs,asx)) (rsL l)=some (.ptr n [] 0 0 0,up' (kill (rsL l) asx) n (some ⟨true,k,0,[vs]⟩)):=by
 simp only [Bool.and_eq_true,beq_iff_eq,decide_eq_true_eq] at h
 simp [QyU,h]
theorem Qnj {z:List AV} {l:List (Nat×Option Qaj)} : evI call n tm (rsL l) (.alloc z)=some (.ptr n [] 0 0 0,rsL ((n,some ⟨true,z.length,0,[z]⟩)::l)):=(rfl)
def QwB (k:Nat) (a:AV) (s:Option (List AV×List Nat)) (rs:Rs):Option (AV×Rs):=match a with
 | .ptr r q pv i c=>(QcV rs r q pv).bind fun (R,_,ro,xs)=>(xs[i]?).bind fun el =>
  s.bind fun (vs,asx) =>
   if ro=false∧vs.length=k∧c+k≤el.length∧r∉asx∧asx.Nodup then
    some (.undef,up' (kill rs asx) r (some { R with
     pv:=if Qa7 vs then R.pv+1 else R.pv,xs:=QbK R.xs q fun ys=>QaY ys i c vs }))
   else none
 | _=>none
theorem Qnb {k:Nat} {a v:X} : evI call n tm rs (.store k a v)=QwB k (a.ev tm) (Qdf rs (v.ev tm).cells) rs:=(rfl)
def stR (k r i c:Nat) (vs:List AV) (asx:List Nat) (R:Option Qaj) (rs:Rs):Option (AV×Rs):=match R with
 | some R=>if R.own=true then stE k r i c vs asx R (R.xs[i]?) rs else none
 | none=>none
where stE (k r i c:Nat) (vs:List AV) (asx:List Nat) (R:Qaj) (el:Option (List AV)) (rs:Rs):Option (AV×Rs):=match el with
 | some el=>if (vs.length == k && decide (c+k≤el.length) && !asx.contains r && decide asx.Nodup)=true then some (.undef,up' (kill rs asx) r (some { R with pv:=if Qa7 vs then R.pv+1 else R.pv,xs:=QaY R.xs i c vs })) else none
 | none=>none
theorem Quf {k r pv i c:Nat} {vs:List AV} {asx:List Nat} : QwB k (.ptr r [] pv i c) (some (vs,asx)) rs=stR k r i c vs asx (rs r) rs:=by
 simp only [QwB,QcV,stR]
 cases rs r with
 | none=>rfl
 | some R =>
  obtain ⟨o,s,p,x⟩:=R
  cases o
  ·simp only [Option.bind_some,Qaj.arr,Option.map_some,Bool.not_false,Bool.true_eq_false,Bool.false_eq_true,false_and, ↓reduceIte]
   cases x[i]? <;> rfl
  ·simp only [Option.bind_some,Qaj.arr,Option.map_some,Bool.not_true,true_and, ↓reduceIte,stR.stE]
   cases x[i]? with
   | none=>rfl
   | some el =>
    simp only [Option.bind_some,QbK]
    congr 1
    simp [and_assoc,List.contains_iff_mem]
theorem Quh {k r i c sz pv:Nat} {vs:List AV} {asx:List Nat} {xs:Els} : stR k r i c vs asx (some ⟨true,sz,pv,xs⟩) rs=stR.stE k r i c vs asx ⟨true,sz,pv,xs⟩ xs[i]? rs:=(rfl)
theorem Qul {k r i c sz pv:Nat} {vs:List AV} {asx:List Nat} {xs:Els} {el:List AV} {l:List (Nat×Option Qaj)} (h:(vs.length == k && decide (c+k≤el.length) && !asx.contains r && decide asx.Nodup)=true) (hd:Qa7 vs=false) :
 stR.stE k r i c vs asx ⟨true,sz,pv,xs⟩ (some el) (rsL l)=some (.undef,up' (kill (rsL l) asx) r (some ⟨true,sz,pv,QaY xs i c vs⟩)):=by
 simp only [stR.stE,h,hd, ↓reduceIte,Bool.false_eq_true]
theorem Qum {k r i c sz pv:Nat} {vs:List AV} {asx:List Nat} {xs:Els} {el:List AV} {l:List (Nat×Option Qaj)} (h:(vs.length == k && decide (c+k≤el.length) && !asx.contains r && decide asx.Nodup)=true) (hd:Qa7 vs=true) :
 stR.stE k r i c vs asx ⟨true,sz,pv,xs⟩ (some el) (rsL l)=some (.undef,up' (kill (rsL l) asx) r (some ⟨true,sz,pv+1,QaY xs i c vs⟩)):=by
 simp only [stR.stE,h,hd, ↓reduceIte]
theorem QuX {el:List AV} {l:Els} {c:Nat} {vs:List AV} : QaY (el::l) 0 c vs=(el.take c++vs++el.drop (c+vs.length))::l:=(rfl)
theorem d_b {x:Bool} {vs:List AV} : Qa7 (.b x::vs)=Qa7 vs:=(rfl)
theorem d_i {k:IntKind} {x:Int} {vs:List AV} : Qa7 (.i k x::vs)=Qa7 vs:=(rfl)
theorem d_s {x:ByteArray} {vs:List AV} : Qa7 (.s x::vs)=Qa7 vs:=(rfl)
theorem d_d {p b:Bool} {sz:Nat} {xs:Els} {vs:List AV} : Qa7 (.deep p b sz xs::vs)=true:=(rfl)
theorem Qw8:Qa7 []=false:=(rfl)
def QtX (n sz by':Nat) (z:List AV) (m:AV) (rs:Rs):Option (AV×Rs):=match m with
 | .i _ m=>if 0≤m∧m * by'≤140737488355328 then some (.slc n [] 0 sz 0 m.toNat,up' rs n (some ⟨true,sz,0,List.replicate m.toNat z⟩)) else none
 | _=>none
theorem Qwc {sz by':Nat} {z:List AV} {m:X} : evI call n tm rs (.mks sz by' z m)=QtX n sz by' z (m.ev tm) rs:=(rfl)
theorem QyF {sz by':Nat} {z:List AV} {k:IntKind} {m:Int} {l:List (Nat×Option Qaj)} (h1:0≤m) (h2:m * by'≤140737488355328):QtX n sz by' z (.i k m) (rsL l)=some (.slc n [] 0 sz 0 m.toNat,rsL ((n,some ⟨true,sz,0,List.replicate m.toNat z⟩)::l)):=by
 simp only [QtX,if_pos (show 0≤m∧m * by'≤140737488355328 from ⟨h1,h2⟩),Qc1]
end
end Go.Proofs.YtallpjhkmcgpoaaGreat.V
end
