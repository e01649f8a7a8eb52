/- FnLowered: WJ WK WO WM WN L0 WL WS. -/
import Derived.Test.YtallpjhkmcgpoaaGreatBFnLowered1
import Derived.Deep.Slices
import Derived.ChangeArms
import Derived.WideShapes
import Derived.Below
import Derived.Shelf.SlSortCmp.NoneTotal
set_option linter.all false
set_option maxRecDepth 100000
set_option maxHeartbeats 8000000
section
namespace Go.Proofs.YtallpjhkmcgpoaaGreat.V
open Go Go.RowKit
section
variable {call:QaM} {n:Nat} {tm:Tm} {rs:Rs}
def lkA (q:QaO) (pv:Nat) (R:Option Qaj):Option (Nat×Bool×Els):=R.bind fun R=>R.arr q pv
theorem Qcj {r:Nat} {q:QaO} {pv:Nat} : QcV rs r q pv=(rs r).bind fun R=>(lkA q pv (rs r)).map fun x=>(R,x):=by
 simp only [QcV,lkA];cases rs r <;> rfl
theorem QvZ {pv sz pv':Nat} {own:Bool} {xs:Els} : lkA [] pv (some ⟨own,sz,pv',xs⟩)=some (sz, !own,xs):=(rfl)
def lkC (ro:Bool) (v:Option AV):Option (Nat×Bool×Els):=match v with
 | some (.deep _ bo sz ys)=>some (sz,ro || bo,ys)
 | _=>none
theorem QvY {pv sz i c:Nat} {own:Bool} {xs:Els} : lkA [(i,c)] pv (some ⟨own,sz,pv,xs⟩)=lkC (!own) (QW xs i c):=by
 simp only [lkA,Option.bind_some,Qaj.arr, ↓reduceIte,QaB,lkC]
 cases QW xs i c with
 | none=>rfl
 | some v=>cases v <;> rfl
theorem QvX {ro p b:Bool} {sz:Nat} {ys:Els} : lkC ro (some (.deep p b sz ys))=some (sz,ro || b,ys):=(rfl)
theorem Qwi {f:Nat} {ms:List Bool} {args:List X} : evI call n tm rs (.call f ms args)=QeL call n rs f ms (args.map (·.ev tm)):=(rfl)
def dv1 (a:Option (AV×List Use)) (b:Option (List AV×List Use)):Option (List AV×List Use):=a.bind fun a=>b.map fun b=>(a.1::b.1,a.2++b.2)
theorem QnO {ms:List Bool} : QcY rs ms []=some ([],[]):=by cases ms <;> rfl
theorem Qkl {m:Bool} {ms:List Bool} {v:AV} {vs:List AV} : QcY rs (m::ms) (v::vs)=dv1 (QeG rs m v) (QcY rs ms vs):=(rfl)
theorem Qin {v:AV} {vs:List AV} : QcY rs [] (v::vs)=dv1 (QeG rs false v) (QcY rs [] vs):=(rfl)
theorem QwV {v:AV} {a b:List Use} {vs:List AV} : dv1 (some (v,a)) (some (vs,b))=some (v::vs,a++b):=(rfl)
def dvA (f:Option Nat) (a:Option (List AV×List Use)):Option (AV×List Use):=a.map fun a=>(match f with|none => .agg a.1|some f => .fn f a.1,a.2)
theorem QAX {o:Bool} {cs:List AV} : QeG rs o (.agg cs)=dvA none (QdP rs o cs):=(rfl)
theorem QAU {o:Bool} {f:Nat} {cs:List AV} : QeG rs o (.fn f cs)=dvA (some f) (QdP rs o cs):=(rfl)
theorem QwU {cs:List AV} {u:List Use} : dvA none (some (cs,u))=some (.agg cs,u):=(rfl)
theorem QwT {f:Nat} {cs:List AV} {u:List Use} : dvA (some f) (some (cs,u))=some (.fn f cs,u):=(rfl)
theorem QAW {o x:Bool} : QeG rs o (.b x)=some (.b x,[]):=(rfl)
theorem QAT {o:Bool} {k:IntKind} {x:Int} : QeG rs o (.i k x)=some (.i k x,[]):=(rfl)
theorem QAQ {o:Bool} {x:ByteArray} : QeG rs o (.s x)=some (.s x,[]):=(rfl)
theorem QAS {sz:Nat} : QeG rs false (.nl sz)=some (.deep false true sz [],[⟨false,true,none⟩]):=(rfl)
theorem QwS {sz:Nat} : QeG rs true (.nl sz)=some (.nl sz,[]):=(rfl)
theorem QAV {o:Bool} {r:Nat} {q:QaO} {pv sz off len:Nat} : QeG rs o (.slc r q pv sz off len)=Qc9 rs o (.slc r q pv sz off len):=(rfl)
theorem QAR {o:Bool} {r:Nat} {q:QaO} {pv i c:Nat} : QeG rs o (.ptr r q pv i c)=Qc9 rs o (.ptr r q pv i c):=(rfl)
theorem QnY {o:Bool} : QdP rs o []=some ([],[]):=(rfl)
theorem Qkr {o:Bool} {v:AV} {vs:List AV} : QdP rs o (v::vs)=dv1 (Qc9 rs o v) (QdP rs o vs):=(rfl)
theorem QA4 {o x:Bool} : Qc9 rs o (.b x)=some (.b x,[]):=(rfl)
theorem QA3 {o:Bool} {k:IntKind} {x:Int} : Qc9 rs o (.i k x)=some (.i k x,[]):=(rfl)
theorem QAY {o:Bool} {x:ByteArray} : Qc9 rs o (.s x)=some (.s x,[]):=(rfl)
theorem QA2 {sz:Nat} : Qc9 rs false (.nl sz)=some (.deep false true sz [],[⟨false,true,none⟩]):=(rfl)
theorem Qw3 {sz:Nat} : Qc9 rs true (.nl sz)=some (.nl sz,[]):=(rfl)
def dcR (r:Nat) (q:QaO) (sz off len:Nat) (a:Option (Nat×Bool×Els)):Option (AV×List Use):=a.map fun a=>(.deep false true sz (wnd a.2.2 off len),[⟨false,a.2.1,some (r,q)⟩])
theorem QAZ {r:Nat} {q:QaO} {pv sz off len:Nat} : Qc9 rs false (.slc r q pv sz off len)=dcR r q sz off len (lkA q pv (rs r)):=by
 simp only [Qc9,Qcj,dcR]
 cases rs r with
 | none=>rfl
 | some R=>cases lkA q pv (some R) <;> rfl
theorem Qw4 {r:Nat} {q:QaO} {sz off len s:Nat} {ro:Bool} {xs:Els} : dcR r q sz off len (some (s,ro,xs))=some (.deep false true sz (wnd xs off len),[⟨false,ro,some (r,q)⟩]):=(rfl)
def dcO (r sz len:Nat) (R:Option Qaj):Option (AV×List Use):=match R with
 | some R=>if R.own=true∧len=R.xs.length then some (.deep false false sz R.xs,[⟨true,false,some (r,[])⟩]) else none
 | none=>none
theorem QA1 {r pv sz len:Nat} : Qc9 rs true (.slc r [] pv sz 0 len)=dcO r sz len (rs r):=by
 simp only [Qc9,Qcj,dcO]
 cases rs r with
 | none=>rfl
 | some R =>
  obtain ⟨o,s,p,x⟩:=R
  cases o <;> simp [lkA,Qaj.arr]
theorem QtG {r sz s pv:Nat} {α:Type} {e:α→List AV} {l:List α} : dcO r sz l.length (some ⟨true,s,pv,l.map e⟩)=some (.deep false false sz (l.map e),[⟨true,false,some (r,[])⟩]):=by simp [dcO]
theorem Qw7 {r sz s pv:Nat} : dcO r sz 0 (some ⟨true,s,pv,[]⟩)=some (.deep false false sz [],[⟨true,false,some (r,[])⟩]):=by simp [dcO]
def dcP (o:Bool) (r:Nat) (R:Option Qaj):Option (AV×List Use):=match R with
 | some R=>if R.xs.length=1 then (if o then (if R.own=true then some (.deep true false R.sz R.xs,[⟨true,false,some (r,[])⟩]) else none) else some (.deep true true R.sz R.xs,[⟨false, !R.own,some (r,[])⟩])) else none
 | none=>none
theorem QA0 {o:Bool} {r pv:Nat} : Qc9 rs o (.ptr r [] pv 0 0)=dcP o r (rs r):=by
 simp only [Qc9,Qcj,dcP]
 cases rs r with
 | none=>rfl
 | some R =>
  obtain ⟨w,s,p,x⟩:=R
  cases w <;> cases o <;> simp [lkA,Qaj.arr]
theorem Qw6 {r sz pv:Nat} {el:List AV} : dcP true r (some ⟨true,sz,pv,[el]⟩)=some (.deep true false sz [el],[⟨true,false,some (r,[])⟩]):=by simp [dcP]
theorem Qw5 {r sz pv:Nat} {own:Bool} {el:List AV} : dcP false r (some ⟨own,sz,pv,[el]⟩)=some (.deep true true sz [el],[⟨false, !own,some (r,[])⟩]):=by simp [dcP]
def ac1 (call:QaM) (n:Nat) (rs:Rs) (f:Nat) (a:Option (List AV×List Use)):Option (AV×Rs):=a.bind fun (ds,us)=>if Qdi us then
 (call f ds).bind fun (res,back) =>
  if ((us.all fun u=>u.own || u.ro) || (!res.any QcX && !back.any QdT))∧(Qam res n).2.length≤16∧back.length=us.length then
   (Qbw rs us back).map fun rs' =>
    let a:=Qam res n
    (QfE a.1,Qck rs' n a.2)
  else none
 else none
def ac2 (n:Nat) (rs:Rs) (us:List Use) (a:Option Out):Option (AV×Rs):=a.bind fun (res,back) =>
 if ((us.all fun u=>u.own || u.ro) || (!res.any QcX && !back.any QdT))∧(Qam res n).2.length≤16∧back.length=us.length then
  (Qbw rs us back).map fun rs' =>
   let a:=Qam res n
   (QfE a.1,Qck rs' n a.2)
 else none
theorem Qx3 {f:Nat} {ds:List AV} {us:List Use} (h:Qdi us=true):ac1 call n rs f (some (ds,us))=ac2 n rs us (call f ds):=by
 simp only [ac1,Option.bind_some,h, ↓reduceIte,ac2]
def ac3 (n:Nat) (a:Option Rs) (e:List AV×List Qaj):Option (AV×Rs):=a.map fun rs'=>(QfE e.1,Qck rs' n e.2)
def Qye (us:List Use):Bool:=us.all fun u=>u.own || u.ro
def QBe (res:List AV) (back:List (Option Els)):Bool := !res.any QcX && !back.any QdT
theorem Qx2 {us:List Use} {res:List AV} {back:List (Option Els)} (h:(Qye us || QBe res back)=true) (h2:decide ((Qam res n).2.length≤16)=true) (h3:(back.length == us.length)=true) :
 ac2 n rs us (some (res,back))=ac3 n (Qbw rs us back) (Qam res n):=by
 simp only [ac2,Option.bind_some]
 rw [if_pos ⟨h,by simpa using h2,by simpa using h3⟩]
 rfl
theorem Qx1 {vs:List AV} {l:List Qaj} : ac3 n (some rs) (vs,l)=some (QfE vs,Qck rs n l):=(rfl)
theorem Qt9 {v:AV} : QfE [v]=v:=(rfl)
theorem Qua:QfE [] = .tup []:=(rfl)
theorem Qt8 {a b:AV} {l:List AV} : QfE (a::b::l) = .tup (a::b::l):=(rfl)
theorem Qom:Qck rs n []=rs:=(rfl)
theorem QkE {R:Qaj} {l:List Qaj} {m:List (Nat×Option Qaj)} : Qck (rsL m) n (R::l)=Qck (rsL ((n,some R)::m)) (n+1) l:=(rfl)
theorem QqI:Qbw rs [] []=some rs:=(rfl)
theorem Qvr {ro:Bool} {at':Option (Nat×QaO)} {us:List Use} {b:Option Els} {bs:List (Option Els)} : Qbw rs (⟨false,ro,at'⟩::us) (b::bs)=Qbw rs us bs:=(rfl)
theorem Qvs {ro:Bool} {us:List Use} {b:Option Els} {bs:List (Option Els)} : Qbw rs (⟨true,ro,none⟩::us) (b::bs)=Qbw rs us bs:=(rfl)
theorem Qmc {ro:Bool} {r:Nat} {q:QaO} {us:List Use} {bs:List (Option Els)} {m:List (Nat×Option Qaj)} : Qbw (rsL m) (⟨true,ro,some (r,q)⟩::us) (none::bs)=Qbw (rsL ((r,none)::m)) us bs:=(rfl)
def pbR (r:Nat) (ys:Els) (us:List Use) (bs:List (Option Els)) (R:Option Qaj) (rs:Rs):Option Rs:=match R with
 | some R=>Qbw (up' rs r (some { R with pv:=R.pv+1,xs:=ys })) us bs
 | none=>none
theorem QqH {ro:Bool} {r:Nat} {q:QaO} {us:List Use} {ys:Els} {bs:List (Option Els)} : Qbw rs (⟨true,ro,some (r,q)⟩::us) (some ys::bs)=pbR r ys us bs (rs r) rs:=by
 simp only [Qbw,pbR, ↓reduceIte];cases rs r <;> rfl
theorem Qvt {r sz pv:Nat} {own:Bool} {xs ys:Els} {us:List Use} {bs:List (Option Els)} {m:List (Nat×Option Qaj)} : pbR r ys us bs (some ⟨own,sz,pv,xs⟩) (rsL m)=Qbw (rsL ((r,some ⟨own,sz,pv+1,ys⟩)::m)) us bs:=(rfl)
theorem Qhn:Qam [] n=([],[]):=(rfl)
theorem QpD {x:Bool} {vs:List AV} : Qam (.b x::vs) n=(.b x::(Qam vs n).1,(Qam vs n).2):=(rfl)
theorem Qpz {k:Nat} {vs:List AV} : Qam (.nl k::vs) n=(.nl k::(Qam vs n).1,(Qam vs n).2):=(rfl)
theorem QpA {k:IntKind} {x:Int} {vs:List AV} : Qam (.i k x::vs) n=(.i k x::(Qam vs n).1,(Qam vs n).2):=(rfl)
theorem Qpx {x:ByteArray} {vs:List AV} : Qam (.s x::vs) n=(.s x::(Qam vs n).1,(Qam vs n).2):=(rfl)
theorem QpC {b:Bool} {sz:Nat} {xs:Els} {vs:List AV} : Qam (.deep false b sz xs::vs) n=(.slc n [] 0 sz 0 xs.length::(Qam vs (n+1)).1,⟨!b,sz,0,xs⟩::(Qam vs (n+1)).2):=(rfl)
theorem Qpy {b:Bool} {sz:Nat} {xs:Els} {vs:List AV} : Qam (.deep true b sz xs::vs) n=(.ptr n [] 0 0 0::(Qam vs (n+1)).1,⟨!b,sz,0,xs⟩::(Qam vs (n+1)).2):=(rfl)
theorem QpE {cs vs:List AV} : Qam (.agg cs::vs) n=(.agg (Qba cs n).1::(Qam vs (n+(Qba cs n).2.length)).1,(Qba cs n).2++(Qam vs (n+(Qba cs n).2.length)).2):=(rfl)
theorem QpB {f:Nat} {cs vs:List AV} : Qam (.fn f cs::vs) n=(.fn f (Qba cs n).1::(Qam vs (n+(Qba cs n).2.length)).1,(Qba cs n).2++(Qam vs (n+(Qba cs n).2.length)).2):=(rfl)
theorem Qhr:Qba [] n=([],[]):=(rfl)
theorem QpS {x:Bool} {vs:List AV} : Qba (.b x::vs) n=(.b x::(Qba vs n).1,(Qba vs n).2):=(rfl)
theorem QpQ {k:IntKind} {x:Int} {vs:List AV} : Qba (.i k x::vs) n=(.i k x::(Qba vs n).1,(Qba vs n).2):=(rfl)
theorem QpP {x:ByteArray} {vs:List AV} : Qba (.s x::vs) n=(.s x::(Qba vs n).1,(Qba vs n).2):=(rfl)
theorem QpR {b:Bool} {sz:Nat} {xs:Els} {vs:List AV} : Qba (.deep false b sz xs::vs) n=(.slc n [] 0 sz 0 xs.length::(Qba vs (n+1)).1,⟨!b,sz,0,xs⟩::(Qba vs (n+1)).2):=(rfl)
theorem QqK:Qdi []=true:=(rfl)
def ouP (u v:Use):Bool := !(u.own || v.own) || u.at'.isNone || v.at'.isNone || decide (u.root≠v.root)
def ouA (u:Use):List Use→Bool
 | []=>true
 | v::us=>ouP u v && ouA u us
theorem Qmk {u:Use} {us:List Use} : Qdi (u::us)=(ouA u us && Qdi us):=by
 have:∀ us:List Use,(us.all fun v => !(u.own || v.own) || u.at'.isNone || v.at'.isNone || decide (u.root≠v.root))=ouA u us:=fun us=>by
  induction us with
  | nil=>rfl
  | cons v us ih=>simp only [List.all_cons,ih];rfl
 simp only [Qdi,this]
theorem QqR {u:Use} : ouA u []=true:=(rfl)
theorem Qmq {u v:Use} {us:List Use} : ouA u (v::us)=(ouP u v && ouA u us):=(rfl)
theorem QvF {a b:Bool} {x y:Option (Nat×QaO)} : ouP ⟨false,a,x⟩ ⟨false,b,y⟩=true:=(rfl)
theorem QvI {o p a b:Bool} {y:Option (Nat×QaO)} : ouP ⟨o,a,none⟩ ⟨p,b,y⟩=true:=by simp [ouP]
theorem QvH {o p a b:Bool} {x:Option (Nat×QaO)} : ouP ⟨o,a,x⟩ ⟨p,b,none⟩=true:=by simp [ouP]
theorem QvG {o p a b:Bool} {r r':Nat} {q q':QaO} (h:decide (r≠r')=true):ouP ⟨o,a,some (r,q)⟩ ⟨p,b,some (r',q')⟩=true:=by
 have h':r≠r':=by simpa using h
 have h'':(Use.root ⟨o,a,some (r,q)⟩)≠(Use.root ⟨p,b,some (r',q')⟩):=by simpa [Use.root] using h'
 simp [ouP,h'']
theorem Qp8:Qye []=true:=(rfl)
theorem QlB {o ro:Bool} {a:Option (Nat×QaO)} {us:List Use} : Qye (⟨o,ro,a⟩::us)=((o || ro) && Qye us):=(rfl)
def bkR (res:List AV):Bool:=res.any QcX
def bkB (bs:List (Option Els)):Bool:=bs.any QdT
theorem QBd {res:List AV} {back:List (Option Els)} : QBe res back=(!bkR res && !bkB back):=(rfl)
theorem QrR:bkR []=false:=(rfl)
theorem Qoe {v:AV} {vs:List AV} : bkR (v::vs)=(QcX v || bkR vs):=(rfl)
theorem QrU:bkB []=false:=(rfl)
theorem QBg {bs:List (Option Els)} : bkB (none::bs)=bkB bs:=(rfl)
theorem QBf {ys:Els} {bs:List (Option Els)} : bkB (some ys::bs)=(QcQ 6 ys || bkB bs):=(rfl)
theorem QAh {x:Bool} : QcX (.b x)=false:=(rfl)
theorem QAf {k:IntKind} {x:Int} : QcX (.i k x)=false:=(rfl)
theorem QAe {x:ByteArray} : QcX (.s x)=false:=(rfl)
theorem QAg {p b:Bool} {sz:Nat} {xs:Els} : QcX (.deep p b sz xs)=(b || QcQ 6 xs):=(rfl)
def hbA (cs:List AV):Bool:=cs.any Qeg
theorem QAi {cs:List AV} : QcX (.agg cs)=hbA cs:=(rfl)
theorem Qrw:hbA []=false:=(rfl)
theorem QAm {x:Bool} {cs:List AV} : hbA (.b x::cs)=hbA cs:=(rfl)
theorem QAk {k:IntKind} {x:Int} {cs:List AV} : hbA (.i k x::cs)=hbA cs:=(rfl)
theorem QAj {x:ByteArray} {cs:List AV} : hbA (.s x::cs)=hbA cs:=(rfl)
theorem QAl {p b:Bool} {sz:Nat} {xs:Els} {cs:List AV} : hbA (.deep p b sz xs::cs)=((b || QcQ 6 xs) || hbA cs):=(rfl)
theorem Qof {k:Nat} : QcQ (k+1) []=false:=(rfl)
def Qog (k:Nat) (el:List AV):Bool:=el.any fun | .deep _ bo _ ys=>bo || QcQ k ys|_=>false
theorem Qhz {k:Nat} {el:List AV} {xs:Els} : QcQ (k+1) (el::xs)=(Qog k el || QcQ (k+1) xs):=(rfl)
theorem Qkz {k:Nat} : Qog k []=false:=(rfl)
theorem Qzc {k:Nat} {x:Bool} {cs:List AV} : Qog k (.b x::cs)=Qog k cs:=(rfl)
theorem Qzb {k:Nat} {q:IntKind} {x:Int} {cs:List AV} : Qog k (.i q x::cs)=Qog k cs:=(rfl)
theorem Qza {k:Nat} {x:ByteArray} {cs:List AV} : Qog k (.s x::cs)=Qog k cs:=(rfl)
theorem Qys {k:Nat} {p b:Bool} {sz:Nat} {xs:Els} {cs:List AV} : Qog k (.deep p b sz xs::cs)=((b || QcQ k xs) || Qog k cs):=(rfl)
theorem QdC {α:Type} {k:Nat} {e:α→List AV} (h:∀ x,Qog k (e x)=false):∀ l:List α,QcQ (k+1) (l.map e)=false
 | []=>rfl
 | x::l=>by rw [List.map_cons,Qhz,h x,QdC h l];rfl
theorem QtM {k:Nat} {l:List Int} : QcQ (k+1) (l.map eI)=false:=QdC (fun _=>rfl) l
theorem QtO {k:Nat} {l:List Int} : QcQ (k+1) (l.map e8)=false:=QdC (fun _=>rfl) l
theorem QtN {k:Nat} {l:List Bool} : QcQ (k+1) (l.map eB)=false:=QdC (fun _=>rfl) l
theorem QtL {k:Nat} {l:List ByteArray} : QcQ (k+1) (l.map eS)=false:=QdC (fun _=>rfl) l
theorem Qej {α:Type} {e:α→List AV} (h:∀ x,Qa7 (e x)=false):∀ l:List α,Q8 (l.map e)=false
 | []=>rfl
 | x::l=>by have:=Qej h l;simp only [Q8,List.map_cons,List.any_cons,h x,Bool.false_or] at this ⊢; exact this
theorem QnU {l:List Int} : Q8 (l.map eI)=false:=Qej (fun _=>rfl) l
theorem Qw0 {l:List Int} : Q8 (l.map e8)=false:=Qej (fun _=>rfl) l
theorem QwZ {l:List Bool} : Q8 (l.map eB)=false:=Qej (fun _=>rfl) l
theorem QwY {l:List ByteArray} : Q8 (l.map eS)=false:=Qej (fun _=>rfl) l
theorem QnT:Q8 []=false:=(rfl)
def Qrz (ro:Bool) (q:QaO) (r:Nat) (w:Els) (d:Bool):Option (Els×List Nat):=if d then (if ro then some (w.map (·.map QeP),[]) else match q with
 | []=>some (w,[r])
 | _::_=>none) else some (w,[])
theorem QAq {ro:Bool} {q:QaO} {r:Nat} {w:Els} : Qrz ro q r w false=some (w,[]):=(rfl)
theorem QAo {q:QaO} {r:Nat} {w:Els} : Qrz true q r w true=some (w.map (·.map QeP),[]):=(rfl)
theorem QAp {r:Nat} {w:Els} : Qrz false [] r w true=some (w,[r]):=(rfl)
def Qpo (sz sz' r:Nat) (q:QaO) (off len:Nat) (a:Option (Nat×Bool×Els)):Option (Els×List Nat):=match a with
 | some a=>if sz'=sz then Qrz a.2.1 q r (wnd a.2.2 off len) (Q8 (wnd a.2.2 off len)) else none
 | none=>none
theorem Quo {sz r:Nat} {q:QaO} {pv sz' off len:Nat} : Qgi rs sz (.slc r q pv sz' off len)=Qpo sz sz' r q off len (lkA q pv (rs r)):=by
 simp only [Qgi,Qcj,Qpo]
 cases rs r with
 | none=>rfl
 | some R=>cases lkA q pv (some R) <;> rfl
theorem Qqh {sz r s:Nat} {q:QaO} {off len:Nat} {ro:Bool} {xs:Els} : Qpo sz sz r q off len (some (s,ro,xs))=Qrz ro q r (wnd xs off len) (Q8 (wnd xs off len)):=by simp [Qpo]
theorem Quq {sz s:Nat} : Qgi rs sz (.nl s)=some ([],[]):=(rfl)
def u8s (s:ByteArray):List Int:=s.toList.map fun u=>((u.toNat:Nat):Int)
theorem Qun {x:ByteArray} : Qgi rs 1 (.s x)=some ((u8s x).map e8,[]):=by simp [Qgi,u8s,e8,Function.comp_def]
def Qfm (pre post:Els) (rs:Rs) (r0:Option Nat):Option (Els×Els×Rs×Option Nat):=some (pre,post,rs,r0)
theorem Qxz {sz s:Nat} : QeK rs sz (.nl s)=Qfm [] [] rs none:=(rfl)
def Qyt (sz sz' r off len:Nat) (R:Option Qaj) (rs:Rs):Option (Els×Els×Rs×Option Nat):=match R with
 | some R=>if sz'=sz∧R.own=true then Qfm (wnd R.xs off len) (R.xs.drop (off+len)) (up' rs r none) (some r) else none
 | none=>none
theorem Qxx {sz r pv sz' off len:Nat} : QeK rs sz (.slc r [] pv sz' off len)=Qyt sz sz' r off len (rs r) rs:=by
 simp only [QeK,Qcj,Qyt]
 cases rs r with
 | none=>rfl
 | some R =>
  obtain ⟨o,s,p,x⟩:=R
  cases o <;> simp [lkA,Qaj.arr,Qc2,Qfm]
theorem QrV {sz r off len s pv:Nat} {xs:Els} {m:List (Nat×Option Qaj)} : Qyt sz sz r off len (some ⟨true,s,pv,xs⟩) (rsL m)=Qfm (wnd xs off len) (xs.drop (off+len)) (rsL ((r,none)::m)) (some r):=by simp [Qyt,Qc1]
def QxA (sz sz' r off len i c:Nat) (R:Qaj) (v:Option (Nat×Bool×Els)) (rs:Rs):Option (Els×Els×Rs×Option Nat):=match v with
 | some (_,false,ys)=>if sz'=sz then Qfm (wnd ys off len) (ys.drop (off+len)) (up' rs r (some { R with xs:=QaY R.xs i c [.undef] })) (some r) else none
 | _=>none
def Qzd (sz sz' r off len i c pv:Nat) (R:Option Qaj) (rs:Rs):Option (Els×Els×Rs×Option Nat):=match R with
 | some R=>QxA sz sz' r off len i c R (lkA [(i,c)] pv (some R)) rs
 | none=>none
theorem Qxy {sz r pv sz' off len i c:Nat} : QeK rs sz (.slc r [(i,c)] pv sz' off len)=Qzd sz sz' r off len i c pv (rs r) rs:=by
 simp only [QeK,Qcj,Qzd,QxA]
 cases rs r with
 | none=>rfl
 | some R =>
  simp only [Option.bind_some]
  cases lkA [(i,c)] pv (some R) with
  | none=>rfl
  | some a=>obtain ⟨s,ro,ys⟩:=a;cases ro <;> simp [Qc2,Qfm,Qcb,QbK]
theorem QrW {sz sz' r off len i c pv s p:Nat} {own:Bool} {xs:Els} : Qzd sz sz' r off len i c pv (some ⟨own,s,p,xs⟩) rs=QxA sz sz' r off len i c ⟨own,s,p,xs⟩ (lkA [(i,c)] pv (some ⟨own,s,p,xs⟩)) rs:=(rfl)
theorem QrX {sz r off len i c s s' p:Nat} {own:Bool} {xs ys:Els} {m:List (Nat×Option Qaj)} : QxA sz sz r off len i c ⟨own,s,p,xs⟩ (some (s',false,ys)) (rsL m)=Qfm (wnd ys off len) (ys.drop (off+len)) (rsL ((r,some ⟨own,s,p,QaY xs i c [.undef]⟩)::m)) (some r):=by simp [QxA,Qc1]
def QgK (n sz by':Nat) (a:Option (Els×List Nat)) (b:Option (Els×Els×Rs×Option Nat)):Option (AV×Rs):=a.bind fun (ys,asx)=>b.bind fun (pre,post,rs',r0) =>
 if (pre.length+ys.length) * by'≤140737488355328∧(∀ r∈asx,some r≠r0)∧asx.Nodup then
  some (.slc n [] 0 sz 0 (pre.length+ys.length),up' (kill rs' asx) n (some ⟨true,sz,0,pre++ys++post.drop ys.length⟩))
 else none
theorem Qwm {sz by':Nat} {x y:X} : evI call n tm rs (.app sz by' x y)=QgK n sz by' (Qgi rs sz (y.ev tm)) (QeK rs sz (x.ev tm)):=(rfl)
def Qc7 (xs:Els):Els:=xs
theorem QxW {sz by':Nat} {α:Type} {e:α→List AV} {a b:List α} {r0:Option Nat} {m:List (Nat×Option Qaj)} (h:(a.length+b.length) * by'≤140737488355328) :
 QgK n sz by' (some (b.map e,[])) (Qfm (a.map e) [] (rsL m) r0)=some (.slc n [] 0 sz 0 (a++b).length,rsL ((n,some ⟨true,sz,0,(a++b).map e⟩)::m)):=by
 simp [QgK,Qfm,h,QbA,Qc1]
theorem Qx0 {sz by':Nat} {α:Type} {e:α→List AV} {b:List α} {r0:Option Nat} {m:List (Nat×Option Qaj)} (h:b.length * by'≤140737488355328) :
 QgK n sz by' (some (b.map e,[])) (Qfm [] [] (rsL m) r0)=some (.slc n [] 0 sz 0 b.length,rsL ((n,some ⟨true,sz,0,b.map e⟩)::m)):=by
 simp [QgK,Qfm,h,QbA,Qc1]
theorem Qr3 {sz by':Nat} {r0:Option Nat} {m:List (Nat×Option Qaj)} :
 QgK n sz by' (some ([],[])) (Qfm [] [] (rsL m) r0)=some (.slc n [] 0 sz 0 0,rsL ((n,some ⟨true,sz,0,[]⟩)::m)):=by
 simp [QgK,Qfm,QbA,Qc1]
theorem QxX {sz by':Nat} {α:Type} {e:α→List AV} {a:List α} {r0:Option Nat} {m:List (Nat×Option Qaj)} (h:a.length * by'≤140737488355328) :
 QgK n sz by' (some ([],[])) (Qfm (a.map e) [] (rsL m) r0)=some (.slc n [] 0 sz 0 a.length,rsL ((n,some ⟨true,sz,0,a.map e⟩)::m)):=by
 simp [QgK,Qfm,h,QbA,Qc1]
theorem QxY {sz by':Nat} {α:Type} {e:α→List AV} {a b:List α} {r r0:Nat} {m:List (Nat×Option Qaj)} (h:(a.length+b.length) * by'≤140737488355328) (hr:decide (r≠r0)=true) :
 QgK n sz by' (some (b.map e,[r])) (Qfm (a.map e) [] (rsL m) (some r0))=some (.slc n [] 0 sz 0 (a++b).length,rsL ((n,some ⟨true,sz,0,(a++b).map e⟩)::(r,none)::m)):=by
 have hr':r≠r0:=by simpa using hr
 simp [QgK,Qfm,h,QbA,Qc1,Qb6,hr']
theorem Qr2 {sz by':Nat} {α:Type} {e:α→List AV} {b:List α} {r r0:Nat} {m:List (Nat×Option Qaj)} (h:b.length * by'≤140737488355328) (hr:decide (r≠r0)=true) :
 QgK n sz by' (some (b.map e,[r])) (Qfm [] [] (rsL m) (some r0))=some (.slc n [] 0 sz 0 b.length,rsL ((n,some ⟨true,sz,0,b.map e⟩)::(r,none)::m)):=by
 have hr':r≠r0:=by simpa using hr
 simp [QgK,Qfm,h,QbA,Qc1,Qb6,hr']
theorem Qr1 {sz by':Nat} {α:Type} {e:α→List AV} {b:List α} {r:Nat} {m:List (Nat×Option Qaj)} (h:b.length * by'≤140737488355328) :
 QgK n sz by' (some (b.map e,[r])) (Qfm [] [] (rsL m) none)=some (.slc n [] 0 sz 0 b.length,rsL ((n,some ⟨true,sz,0,b.map e⟩)::(r,none)::m)):=by
 simp [QgK,Qfm,h,QbA,Qc1,Qb6]
theorem Qf5 {α:Type} {e:α→List AV} {l:List α} : (l.map e).drop (0+l.length)=[]:=by rw [Nat.zero_add];exact List.drop_eq_nil_of_le (by simp)
theorem Qio {k:Nat} : ([]:Els).drop k=[]:=by simp
def QyT (n sz len:Nat) (a:Option (Els×List Nat)) (rs:Rs):Option (AV×Rs):=a.bind fun (xs,asx) =>
 if asx.Nodup then some (.slc n [] 0 sz 0 len,up' (kill rs asx) n (some ⟨true,sz,0,Qc7 xs⟩)) else none
theorem Qwe {sz len:Nat} {z:List AV} {ps:List (Nat×X)} : evI call n tm rs (.lit sz len z ps)=QyT n sz len (evI.go tm rs ps (List.replicate len z) []) rs:=(rfl)
def gl1 (tm:Tm) (rs:Rs) (j:Nat) (a:Option (List AV×List Nat)) (rest:List (Nat×X)) (xs:Els) (asx:List Nat):Option (Els×List Nat):=a.bind fun (vs,as') =>
 if (xs[j]?).map (·.length)=some vs.length then evI.go tm rs rest (xs.set j vs) (asx++as') else none
theorem Qrx {xs:Els} {asx:List Nat} : evI.go tm rs [] xs asx=some (xs,asx):=(rfl)
theorem Qnl {j:Nat} {x:X} {rest:List (Nat×X)} {xs:Els} {asx:List Nat} : evI.go tm rs ((j,x)::rest) xs asx=gl1 tm rs j (Qdf rs (x.ev tm).cells) rest xs asx:=(rfl)
theorem Qwr {j:Nat} {vs:List AV} {as':List Nat} {rest:List (Nat×X)} {xs:Els} {asx:List Nat} (h:((xs.getD j []).length == vs.length && decide (j<xs.length))=true):gl1 tm rs j (some (vs,as')) rest xs asx=evI.go tm rs rest (xs.set j vs) (asx++as'):=by
 simp only [Bool.and_eq_true,beq_iff_eq,decide_eq_true_eq] at h
 obtain ⟨h1,h2⟩:=h
 simp only [gl1,Option.bind_some]
 rw [if_pos]
 rw [List.getElem?_eq_getElem h2,Option.map_some, ←h1,List.getD_eq_getElem?_getD,List.getElem?_eq_getElem h2];rfl
theorem Qv0 {sz len:Nat} {xs:Els} {asx:List Nat} {m:List (Nat×Option Qaj)} (h:decide asx.Nodup=true):QyT n sz len (some (xs,asx)) (rsL m)=some (.slc n [] 0 sz 0 len,up' (kill (rsL m) asx) n (some ⟨true,sz,0,Qc7 xs⟩)):=by
 have h':asx.Nodup:=by simpa using h
 simp [QyT,h']
theorem Qvp {z:List AV} : List.replicate 0 z=[]:=(rfl)
theorem Qvo {z:List AV} : List.replicate 1 z=[z]:=(rfl)
theorem Qvn {z:List AV} : List.replicate 2 z=[z,z]:=(rfl)
theorem Qvm {z:List AV} : List.replicate 3 z=[z,z,z]:=(rfl)
theorem Qvl {z:List AV} : List.replicate 4 z=[z,z,z,z]:=(rfl)
theorem Qq4:Qc7 []=[]:=(rfl)
theorem QmX {a:Int} : Qc7 [[.i .i64 a]]=List.map eI [a]:=(rfl)
theorem QmZ {a:Int} : Qc7 [[.i .u8 a]]=List.map e8 [a]:=(rfl)
theorem QmY {a b:Int} : Qc7 [[.i .u8 a],[.i .u8 b]]=List.map e8 [a,b]:=(rfl)
theorem QmM {a:ByteArray} : Qc7 [[.s a]]=List.map eS [a]:=(rfl)
theorem QmW {a b:Int} : Qc7 [[.i .i64 a],[.i .i64 b]]=List.map eI [a,b]:=(rfl)
theorem QmV {a b c:Int} : Qc7 [[.i .i64 a],[.i .i64 b],[.i .i64 c]]=List.map eI [a,b,c]:=(rfl)
theorem QvP {sz by':Nat} {α:Type} {e:α→List AV} {z:α} {k:IntKind} {m:Int} {l:List (Nat×Option Qaj)} {zs:List AV} (hz:e z=zs) (h1:0≤m) (h2:m * by'≤140737488355328) :
 QtX n sz by' zs (.i k m) (rsL l)=some (.slc n [] 0 sz 0 (List.replicate m.toNat z).length,rsL ((n,some ⟨true,sz,0,(List.replicate m.toNat z).map e⟩)::l)):=by
 subst hz;rw [QyF h1 h2,List.length_replicate,List.map_replicate]
theorem QvQ {sz by':Nat} {k:IntKind} {m:Int} {l:List (Nat×Option Qaj)} (h1:0≤m) (h2:m * by'≤140737488355328) :
 QtX n sz by' [.i .i64 0] (.i k m) (rsL l)=some (.slc n [] 0 sz 0 (List.replicate m.toNat (0:Int)).length,rsL ((n,some ⟨true,sz,0,(List.replicate m.toNat (0:Int)).map eI⟩)::l)):=QvP (e:=eI) rfl h1 h2
theorem QvR {sz by':Nat} {k:IntKind} {m:Int} {l:List (Nat×Option Qaj)} (h1:0≤m) (h2:m * by'≤140737488355328) :
 QtX n sz by' [.b false] (.i k m) (rsL l)=some (.slc n [] 0 sz 0 (List.replicate m.toNat false).length,rsL ((n,some ⟨true,sz,0,(List.replicate m.toNat false).map eB⟩)::l)):=QvP (e:=eB) rfl h1 h2
def Qje (l:List Int):ByteArray:=⟨(l.map fun n=>UInt8.ofNat n.toNat).toArray⟩
theorem Qlj {l:List Int} : Qca (l.map e8)=some (l.map fun n=>UInt8.ofNat n.toNat):=by
 induction l with
 | nil=>rfl
 | cons x l ih=>simp only [List.map_cons,e8,Qca];rw [show Qca (l.map e8)=_ from ih];rfl
def Qtl (x:AV) (a:Option (Nat×Bool×Els)) (rs:Rs):Option (AV×Rs):=match x,a with
 | .nl _,_=>some (.s .empty,rs)
 | .slc r q pv sz off len,some a=>if sz=1 then bts2 (Qca (wnd a.2.2 off len)) rs else none
 | _,_=>none
where bts2 (l:Option (List UInt8)) (rs:Rs):Option (AV×Rs):=l.map fun l=>(.s ⟨l.toArray⟩,rs)
def Qu9:AV→QaO×Nat×Nat
 | .slc r q pv _ _ _=>(q,pv,r)
 | _=>([],0,0)
theorem Qwj {x:X} : evI call n tm rs (.bts x)=Qtl (x.ev tm) (lkA (Qu9 (x.ev tm)).1 (Qu9 (x.ev tm)).2.1 (rs (Qu9 (x.ev tm)).2.2)) rs:=by
 simp only [evI,Qcj,Qtl]
 cases x.ev tm <;> try rfl
 rename_i r q pv sz off len
 simp only [Qu9]
 cases rs r with
 | none=>rfl
 | some R=>cases lkA q pv (some R) <;> rfl
theorem QzK {r:Nat} {q:QaO} {pv sz off len:Nat} : Qu9 (.slc r q pv sz off len)=(q,pv,r):=(rfl)
theorem Qxo {r:Nat} {q:QaO} {pv off len s:Nat} {ro:Bool} {xs:Els} : Qtl (.slc r q pv 1 off len) (some (s,ro,xs)) rs=Qtl.bts2 (Qca (wnd xs off len)) rs:=(rfl)
theorem QrP {l:List Int} : Qtl.bts2 (Qca (l.map e8)) rs=some (.s (Qje l),rs):=by simp only [Qlj,Qtl.bts2,Qje,Option.map_some]
theorem QrQ:Qtl.bts2 (Qca []) rs=some (.s (Qje []),rs):=(rfl)
def Qk4 (sz0:Nat) (x:AV) (lo hi:Option AV) (rs:Rs):Option (AV×Rs):=match x with
 | .slc r q pv sz off len=>if sz=sz0 then (Qeh.bndv len hi len).bind fun h=>(Qeh.bndv h lo 0).map fun l=>(.slc r q pv sz (off+l) (h-l),rs) else none
 | .nl sz=>(Qeh.bndv 0 hi 0).bind fun h=>(Qeh.bndv h lo 0).map fun _=>(.nl sz,rs)
 | _=>none
theorem QyL {sz0:Nat} {x:X} {lo hi:Option X} : evI call n tm rs (.slR sz0 x lo hi)=Qk4 sz0 (x.ev tm) (lo.map (·.ev tm)) (hi.map (·.ev tm)) rs:=by
 simp only [evI,Qk4,QpZ]
 cases x.ev tm <;> rfl
theorem QuL {r:Nat} {q:QaO} {pv sz off len:Nat} {k:IntKind} {l:Int} (h1:0≤l) (h2:l≤(len:Int)):Qk4 sz (.slc r q pv sz off len) (some (.i k l)) none rs=some (.slc r q pv sz (off+l.toNat) (len-l.toNat),rs):=by
 simp [Qk4,Qeh.bndv,h1,h2]
theorem QuM {r:Nat} {q:QaO} {pv sz off len:Nat} {k:IntKind} {h:Int} (h1:0≤h) (h2:h≤(len:Int)):Qk4 sz (.slc r q pv sz off len) none (some (.i k h)) rs=some (.slc r q pv sz off h.toNat,rs):=by
 simp [Qk4,Qeh.bndv,h1,h2]
theorem Qqk {r:Nat} {q:QaO} {pv sz off len:Nat} {k k':IntKind} {l h:Int} (h0:0≤l) (h1:l≤h) (h2:h≤(len:Int)):Qk4 sz (.slc r q pv sz off len) (some (.i k l)) (some (.i k' h)) rs=some (.slc r q pv sz (off+l.toNat) (h.toNat-l.toNat),rs):=by
 have e:0≤h:=by omega
 have e2:l≤((h.toNat:Nat):Int):=by omega
 simp only [Qk4,Qeh.bndv, ↓reduceIte,if_pos (show 0≤h∧h≤(len:Int) from ⟨e,h2⟩),Option.bind_some,if_pos (show 0≤l∧l≤((h.toNat:Nat):Int) from ⟨h0,e2⟩),Option.map_some]
theorem QuK {r:Nat} {q:QaO} {pv sz off len:Nat} : Qk4 sz (.slc r q pv sz off len) none none rs=some (.slc r q pv sz off len,rs):=by
 simp [Qk4,Qeh.bndv]
theorem Qwd {f:Nat} {caps:List X} (h:((caps.map (·.ev tm)).all QfV)=true):evI call n tm rs (.mkfn f caps)=some (.fn f (caps.map (·.ev tm)),rs):=by simp only [evI,h, ↓reduceIte]
end
def bks (rs:Rs) (us:List Nat):Nat→List Bool→List (Option Els)
 | _,[]=>[]
 | n,o::os=>(if o then (if n∈us then none else (rs n).map Qaj.xs) else none)::bks rs us (n+1) os
theorem Qiy {rs:Rs} {us:List Nat} : ∀ (l:List Qaj) (n:Nat),Qgd rs us n l=bks rs us n (l.map Qaj.own)
 | [],_=>rfl
 | R::l,n=>by simp only [Qgd,List.map_cons,bks,Qiy l (n+1)]
def lvO (ow:List Bool) (rs:Rs) (a:Option (List AV×List Nat)):Option Out:=match a with
 | some a=>if a.2.Nodup then some (a.1,bks rs a.2 0 ow) else none
 | none=>none
def eF2 (ow:List Bool) (p:Option (List AV×Rs)):Option Out:=match p with
 | some p=>lvO ow p.2 (Qfp p.2 p.1)
 | none=>none
def eF1 (ow:List Bool) (nx:Nat) (rs:Rs) (vs:Option (List AV)):Option Out:=match vs with
 | some vs=>eF2 ow (Qbc nx rs vs)
 | none=>none
def Qf (res:List Res) (ow:List Bool) (out:Out):Pst:=fun e st=>match e with
 | .exit _=>False
 | _=>eF1 ow st.nx st.rs (QbU st res)=some out
theorem QBC {res:List Res} {ow:List Bool} {out:Out} {tm:Tm} {rs:Rs} {nx:Nat} : Qf res ow out .ret ⟨tm,rs,nx⟩=(eF1 ow nx rs (QbU ⟨tm,rs,nx⟩ res)=some out):=(rfl)
theorem QBD {res:List Res} {ow:List Bool} {out:Out} {tm:Tm} {rs:Rs} {nx:Nat} : Qf res ow out .normal ⟨tm,rs,nx⟩=(eF1 ow nx rs (QbU ⟨tm,rs,nx⟩ res)=some out):=(rfl)
section
variable {rs:Rs} {n:Nat}
theorem QwR {ow:List Bool} {nx:Nat} {vs:List AV} : eF1 ow nx rs (some vs)=eF2 ow (Qbc nx rs vs):=(rfl)
theorem QwQ {ow:List Bool} {vs:List AV} : eF2 ow (some (vs,rs))=lvO ow rs (Qfp rs vs):=(rfl)
theorem QvT {ow:List Bool} {vs:List AV} {us:List Nat} (h:decide us.Nodup=true):lvO ow rs (some (vs,us))=some (vs,bks rs us 0 ow):=by
 have h':us.Nodup:=by simpa using h
 simp [lvO,h']
theorem Qoi {us:List Nat} : bks rs us n []=[]:=(rfl)
theorem Qxu {us:List Nat} {os:List Bool} : bks rs us n (false::os)=none::bks rs us (n+1) os:=(rfl)
def bkX (c:Bool) (R:Option Qaj):Option Els:=if c then none else R.map Qaj.xs
theorem Qxt {us:List Nat} {os:List Bool} : bks rs us n (true::os)=bkX (us.contains n) (rs n)::bks rs us (n+1) os:=by
 simp only [bks,bkX, ↓reduceIte,List.contains_iff_mem]
theorem Qxv {R:Option Qaj} : bkX true R=none:=(rfl)
theorem Qxw {sz pv:Nat} {own:Bool} {xs:Els} : bkX false (some ⟨own,sz,pv,xs⟩)=some xs:=(rfl)
def rv1 (v:AV) (a:Option (List AV)):Option (List AV):=a.map (v :: ·)
theorem Qqr {st:St} : QbU st []=some []:=(rfl)
theorem QzI {tm:Tm} {nx t:Nat} {l:List Res} : QbU ⟨tm,rs,nx⟩ (.t t::l)=rv1 (tm t) (QbU ⟨tm,rs,nx⟩ l):=(rfl)
theorem Qu8 {v:AV} {vs:List AV} : rv1 v (some vs)=some (v::vs):=(rfl)
def rv2 (v:Option (AV×Rs)) (a:Option (List AV)):Option (List AV):=v.bind fun v=>a.map (v.1 :: ·)
theorem QzJ {tm:Tm} {nx a:Nat} {k:Option Nat} {l:List Res} : QbU ⟨tm,rs,nx⟩ (.cell a k::l)=rv2 (Qf2 k (tm a) rs) (QbU ⟨tm,rs,nx⟩ l):=by
 simp only [QbU,QjA,rv2]
 have:evI (fun _ _=>none) 0 tm rs (.load k (.t a))=Qf2 k (tm a) rs:=rfl
 rw [this]
 cases Qf2 k (tm a) rs <;> rfl
theorem Qu7 {v:AV} {rs':Rs} {vs:List AV} : rv2 (some (v,rs')) (some vs)=some (v::vs):=(rfl)
def sv1 (v:AV) (p:Option (List AV×Rs)):Option (List AV×Rs):=p.map fun p=>(v::p.1,p.2)
theorem Qqf:Qbc n rs []=some ([],rs):=(rfl)
theorem Qzq {x:Bool} {vs:List AV} : Qbc n rs (.b x::vs)=sv1 (.b x) (Qbc (n+16) rs vs):=(rfl)
theorem Qzp {k:IntKind} {x:Int} {vs:List AV} : Qbc n rs (.i k x::vs)=sv1 (.i k x) (Qbc (n+16) rs vs):=(rfl)
theorem Qzl {x:ByteArray} {vs:List AV} : Qbc n rs (.s x::vs)=sv1 (.s x) (Qbc (n+16) rs vs):=(rfl)
theorem Qzo {k:Nat} {vs:List AV} : Qbc n rs (.nl k::vs)=sv1 (.nl k) (Qbc (n+16) rs vs):=(rfl)
theorem Qzm {r pv sz off len:Nat} {vs:List AV} : Qbc n rs (.slc r [] pv sz off len::vs)=sv1 (.slc r [] pv sz off len) (Qbc (n+16) rs vs):=(rfl)
theorem Que {v:AV} {vs:List AV} : sv1 v (some (vs,rs))=some (v::vs,rs):=(rfl)
def spQ (n r i c sz off len:Nat) (pv:Nat) (a:Option (Nat×Bool×Els)) (R:Option Qaj) (rs:Rs):AV×Rs:=match R,a with
 | some R,some (s,false,ys)=>(.slc n [] 0 sz off len,up' (up' rs r (some { R with xs:=QaY R.xs i c [.undef] })) n (some ⟨true,s,0,ys⟩))
 | _,_=>(.slc r [(i,c)] pv sz off len,rs)
theorem Qsp {r pv sz off len i c:Nat} : (QbW n rs (.slc r [(i,c)] pv sz off len)).1=(spQ n r i c sz off len pv (lkA [(i,c)] pv (rs r)) (rs r) rs).1∧(QbW n rs (.slc r [(i,c)] pv sz off len)).2.1=(spQ n r i c sz off len pv (lkA [(i,c)] pv (rs r)) (rs r) rs).2:=by
 simp only [QbW,Qc2,Qcj,spQ]
 cases rs r with
 | none=>exact ⟨rfl,rfl⟩
 | some R =>
  simp only [Option.bind_some]
  cases lkA [(i,c)] pv (some R) with
  | none=>exact ⟨rfl,rfl⟩
  | some a=>obtain ⟨s,ro,ys⟩:=a;cases ro <;> exact ⟨rfl,rfl⟩
def sv2 (a:AV×Rs) (n:Nat) (vs:List AV):Option (List AV×Rs):=sv1 a.1 (Qbc (n+16) a.2 vs)
theorem Qzn {r pv sz off len i c:Nat} {vs:List AV} : Qbc n rs (.slc r [(i,c)] pv sz off len::vs)=sv2 (spQ n r i c sz off len pv (lkA [(i,c)] pv (rs r)) (rs r) rs) n vs:=by
 have h:=Qsp (n:=n) (rs:=rs) (r:=r) (pv:=pv) (sz:=sz) (off:=off) (len:=len) (i:=i) (c:=c)
 simp only [Qbc,QbR,Option.bind_some,sv2, ←h.1, ←h.2]
 cases Qbc (n+16) _ vs <;> rfl
theorem QuD {r pv sz off len i c s s' p:Nat} {own:Bool} {xs ys:Els} {m:List (Nat×Option Qaj)} : spQ n r i c sz off len pv (some (s,false,ys)) (some ⟨own,s',p,xs⟩) (rsL m)=(.slc n [] 0 sz off len,rsL ((n,some ⟨true,s,0,ys⟩)::(r,some ⟨own,s',p,QaY xs i c [.undef]⟩)::m)):=(rfl)
theorem QuC {r pv sz off len i c s:Nat} {R:Option Qaj} {ys:Els} : spQ n r i c sz off len pv (some (s,true,ys)) R rs=(.slc r [(i,c)] pv sz off len,rs):=by cases R <;> rfl
theorem Qud {v:AV} {vs:List AV} : sv2 (v,rs) n vs=sv1 v (Qbc (n+16) rs vs):=(rfl)
def svA (a:List AV×Rs) (n:Nat) (vs:List AV):Option (List AV×Rs):=sv1 (.agg a.1) (Qbc (n+16) a.2 vs)
def spL (n:Nat) (rs:Rs):List AV→List AV×Rs
 | []=>([],rs)
 | v::vs=>let a:=QbW n rs v;let b:=spL (n+1) a.2.1 vs;(a.1::b.1,b.2)
theorem QlK:∀ (cs:List AV) (n:Nat) (rs:Rs),(Qbk n rs cs).1=(spL n rs cs).1∧(Qbk n rs cs).2.1=(spL n rs cs).2
 | [],_,_=>⟨rfl,rfl⟩
 | v::vs,n,rs=>by
  have h:=QlK vs (n+1) (QbW n rs v).2.1
  simp only [Qbk,spL,h.1,h.2,and_self]
theorem Qzr {cs vs:List AV} (h:decide (cs.length≤16)=true):Qbc n rs (.agg cs::vs)=svA (spL n rs cs) n vs:=by
 have h':cs.length≤16:=by simpa using h
 have e:=QlK cs n rs
 simp only [Qbc,QbR,if_pos h',Option.bind_some,svA, ←e.1, ←e.2]
 cases Qbc (n+16) _ vs <;> rfl
theorem Quc {cs vs:List AV} : svA (cs,rs) n vs=sv1 (.agg cs) (Qbc (n+16) rs vs):=(rfl)
def QhY (v:AV) (p:List AV×Rs):List AV×Rs:=(v::p.1,p.2)
theorem Qmb {v:AV} {vs:List AV} : QhY v (vs,rs)=(v::vs,rs):=(rfl)
theorem QlI:spL n rs []=([],rs):=(rfl)
theorem Quw {x:Bool} {vs:List AV} : spL n rs (.b x::vs)=QhY (.b x) (spL (n+1) rs vs):=(rfl)
theorem Quv {k:IntKind} {x:Int} {vs:List AV} : spL n rs (.i k x::vs)=QhY (.i k x) (spL (n+1) rs vs):=(rfl)
theorem Qur {x:ByteArray} {vs:List AV} : spL n rs (.s x::vs)=QhY (.s x) (spL (n+1) rs vs):=(rfl)
theorem Quu {k:Nat} {vs:List AV} : spL n rs (.nl k::vs)=QhY (.nl k) (spL (n+1) rs vs):=(rfl)
theorem Qus {r pv sz off len:Nat} {vs:List AV} : spL n rs (.slc r [] pv sz off len::vs)=QhY (.slc r [] pv sz off len) (spL (n+1) rs vs):=(rfl)
def Qyx (a:AV×Rs) (n:Nat) (vs:List AV):List AV×Rs:=QhY a.1 (spL (n+1) a.2 vs)
theorem Qut {r pv sz off len i c:Nat} {vs:List AV} : spL n rs (.slc r [(i,c)] pv sz off len::vs)=Qyx (spQ n r i c sz off len pv (lkA [(i,c)] pv (rs r)) (rs r) rs) n vs:=by
 have h:=Qsp (n:=n) (rs:=rs) (r:=r) (pv:=pv) (sz:=sz) (off:=off) (len:=len) (i:=i) (c:=c)
 simp only [spL,Qyx, ←h.1, ←h.2];rfl
theorem Qqi {v:AV} {vs:List AV} : Qyx (v,rs) n vs=QhY v (spL (n+1) rs vs):=(rfl)
def ov1 (a:Option (AV×List Nat)) (b:Option (List AV×List Nat)):Option (List AV×List Nat):=a.bind fun a=>b.map fun b=>(a.1::b.1,a.2++b.2)
theorem QqJ:Qfp rs []=some ([],[]):=(rfl)
theorem Qmh {v:AV} {vs:List AV} : Qfp rs (v::vs)=ov1 (Qln rs v) (Qfp rs vs):=(rfl)
theorem Qvz {v:AV} {a b:List Nat} {vs:List AV} : ov1 (some (v,a)) (some (vs,b))=some (v::vs,a++b):=(rfl)
def ovA (a:Option (List AV×List Nat)):Option (AV×List Nat):=a.map fun a=>(.agg a.1,a.2)
theorem QzV {cs:List AV} : Qln rs (.agg cs)=ovA (Qgj rs cs):=(rfl)
theorem Qvy {cs:List AV} {a:List Nat} : ovA (some (cs,a))=some (.agg cs,a):=(rfl)
theorem QzU {x:Bool} : Qln rs (.b x)=some (.b x,[]):=(rfl)
theorem QzS {k:IntKind} {x:Int} : Qln rs (.i k x)=some (.i k x,[]):=(rfl)
theorem QzP {x:ByteArray} : Qln rs (.s x)=some (.s x,[]):=(rfl)
theorem QzR {sz:Nat} : Qln rs (.nl sz)=some (.deep false false sz [],[]):=(rfl)
theorem QzT {r:Nat} {q:QaO} {pv sz off len:Nat} : Qln rs (.slc r q pv sz off len)=QhE rs (.slc r q pv sz off len):=(rfl)
theorem QzQ {r:Nat} {q:QaO} {pv i c:Nat} : Qln rs (.ptr r q pv i c)=QhE rs (.ptr r q pv i c):=(rfl)
theorem QqQ:Qgj rs []=some ([],[]):=(rfl)
theorem Qmp {v:AV} {vs:List AV} : Qgj rs (v::vs)=ov1 (QhE rs v) (Qgj rs vs):=(rfl)
theorem Qz1 {x:Bool} : QhE rs (.b x)=some (.b x,[]):=(rfl)
theorem Qz0 {k:IntKind} {x:Int} : QhE rs (.i k x)=some (.i k x,[]):=(rfl)
theorem QzW {x:ByteArray} : QhE rs (.s x)=some (.s x,[]):=(rfl)
theorem QzZ {sz:Nat} : QhE rs (.nl sz)=some (.deep false false sz [],[]):=(rfl)
def ocR (r sz off len:Nat) (a:Option (Nat×Bool×Els)):Option (AV×List Nat):=match a with
 | some (_,true,ys)=>some (.deep false true sz (wnd ys off len),[])
 | some (_,false,ys)=>some (.deep false false sz (wnd ys off len),[r])
 | none=>none
theorem QzX {r:Nat} {q:QaO} {pv sz off len:Nat} : QhE rs (.slc r q pv sz off len)=ocR r sz off len (lkA q pv (rs r)):=by
 simp only [QhE,Qcj,ocR]
 cases rs r with
 | none=>rfl
 | some R =>
  simp only [Option.bind_some]
  cases lkA q pv (some R) with
  | none=>rfl
  | some a=>obtain ⟨s,ro,ys⟩:=a;cases ro <;> rfl
theorem QvL {r sz off len s:Nat} {ys:Els} : ocR r sz off len (some (s,true,ys))=some (.deep false true sz (wnd ys off len),[]):=(rfl)
theorem QvM {r sz off len s:Nat} {ys:Els} : ocR r sz off len (some (s,false,ys))=some (.deep false false sz (wnd ys off len),[r]):=(rfl)
def ocP (r:Nat) (R:Option Qaj):Option (AV×List Nat):=match R with
 | some R=>if R.xs.length=1 then (if R.own then some (.deep true false R.sz R.xs,[r]) else some (.deep true true R.sz R.xs,[])) else none
 | none=>none
theorem QzY {r pv:Nat} : QhE rs (.ptr r [] pv 0 0)=ocP r (rs r):=by
 simp only [QhE,Qcj,ocP]
 cases rs r with
 | none=>rfl
 | some R=>obtain ⟨o,s,p,x⟩:=R;cases o <;> simp [lkA,Qaj.arr]
theorem QvN {r sz pv:Nat} {el:List AV} : ocP r (some ⟨true,sz,pv,[el]⟩)=some (.deep true false sz [el],[r]):=(rfl)
end
theorem QM {E:Env} {f:Nat} {F:Fn} {ds:List AV} {out:Out} {tm:Tm} {rs:Rs} {nx:Nat} {ow:List Bool} (h0:E.ext f=none) (hF:E.fns f=some F) (hs:(⟨Qav (tmA 0 (Qam ds 0).1),rsL (rsA 0 ((Qam ds 0).2.map some)),(Qam ds 0).2.length⟩:St)=⟨tm,rs,nx⟩) (hw:(Qam ds 0).2.map Qaj.own=ow) (hm:nx≤F.m) (h:W E F.body ⟨tm,rs,nx⟩ (Qf F.res ow out)):Qao E f ds=some out:=by
 refine QpY h0 hF ?_ ?_
 ·injection hs with _ _ h3;rw [h3];exact hm
 ·rw [QoF,hs]
  refine QBR (fun e st hq => ?_) h
  have key:eF1 ow st.nx st.rs (QbU st F.res)=some out→((QbU st F.res).bind fun vs=>(Qbc st.nx st.rs vs).bind fun p=>Qm3 (Qam ds 0).2 p.2 p.1)=some out:=fun h=>by
   simp only [eF1] at h
   split at h
   ·rename_i vs hv
    rw [hv,Option.bind_some]
    simp only [eF2] at h
    split at h
    ·rename_i p hp
     rw [hp,Option.bind_some]
     simp only [lvO] at h
     split at h
     ·rename_i a ha
      simp only [Qm3,ha,Option.bind_some]
      split at h
      ·rename_i hn
       rw [if_pos hn,Qiy,hw];exact h
      ·cases h
     ·cases h
    ·cases h
   ·cases h
  cases e with
  | normal=>exact key hq
  | ret=>exact key hq
  | exit i=>exact hq.elim
end Go.Proofs.YtallpjhkmcgpoaaGreat.V
end
section
namespace Go.Proofs.YtallpjhkmcgpoaaGreat.V
open Go Go.RowKit
section
def kpL:List Nat→Tm→List (Nat×AV)
 | [],_=>[]
 | t::l,tm=>(t,tm t)::kpL l tm
theorem Qm5 {tm:Tm} : kpL [] tm=[]:=(rfl)
theorem Qhj {t:Nat} {l:List Nat} {tm:Tm} : kpL (t::l) tm=(t,tm t)::kpL l tm:=(rfl)
theorem Qrb (tm:Tm):∀ live:List Nat,live.map (fun t=>(t,tm t))=kpL live tm
 | []=>rfl
 | t::l=>by rw [List.map_cons,Qhj,Qrb tm l]
theorem Qyb {live:List Nat} {Q:Pst} {tm:Tm} {rs:Rs} {nx:Nat} : Qk live Q .normal ⟨tm,rs,nx⟩=Q .normal ⟨Qav (kpL live tm),rs,nx⟩:=by rw [QBS,Qrb]
def xsv (tm:Tm):List X→List AV
 | []=>[]
 | x::l=>x.ev tm::xsv tm l
theorem Qp7 {tm:Tm} : xsv tm []=[]:=(rfl)
theorem QiE {tm:Tm} {x:X} {l:List X} : xsv tm (x::l)=x.ev tm::xsv tm l:=(rfl)
theorem Qlq {tm:Tm} : ∀ {l:List X}, l.map (·.ev tm)=xsv tm l
 | []=>rfl
 | x::l=>by rw [List.map_cons,QiE,Qlq (l:=l)]
def oX (tm:Tm):Option X→Option AV
 | some x=>some (x.ev tm)
 | none=>none
theorem Qz2 {tm:Tm} {x:X} : oX tm (some x)=some (x.ev tm):=(rfl)
theorem Qz3 {tm:Tm} : oX tm none=none:=(rfl)
theorem QkX {tm:Tm} {x:Option X} : x.map (·.ev tm)=oX tm x:=by cases x <;> rfl
section
variable {call:QaM} {n:Nat} {tm:Tm} {rs:Rs}
theorem Qwb {m:Bool} {x:X} {xs:List X} : evI call n tm rs (.mm m (x::xs))=fMm m (x.ev tm) (xsv tm xs) rs:=by rw [QBO,Qlq]
theorem Qro {x:X} {lo hi:Option X} : evI call n tm rs (.slS x lo hi)=Qeh (x.ev tm) (oX tm lo) (oX tm hi) rs:=by rw [QyK,QkX,QkX]
theorem Qrp {sz0:Nat} {x:X} {lo hi:Option X} : evI call n tm rs (.slR sz0 x lo hi)=Qk4 sz0 (x.ev tm) (oX tm lo) (oX tm hi) rs:=by rw [QyL,QkX,QkX]
theorem Qnh {f:Nat} {ms:List Bool} {args:List X} : evI call n tm rs (.call f ms args)=ac1 call n rs f (QcY rs ms (xsv tm args)):=by rw [Qwi,Qlq];rfl
theorem Qnd {f:Nat} {caps:List X} (h:(xsv tm caps).all QfV=true):evI call n tm rs (.mkfn f caps)=some (.fn f (xsv tm caps),rs):=by rw [←Qlq] at h ⊢; exact Qwd h
theorem QnC {d:Option Nat} {g:Option (Nat×Bool)} {i:I} (h:Qcw tm g=some true):Qeo call n ⟨d,g,[],i⟩ (tm,rs)=(evI call n tm rs i).map fun p=>(QeN tm d p.1,p.2):=by
 simp only [Qeo,h,Option.bind_some, ↓reduceIte,QbE,List.length_nil,Nat.zero_le,Qcn,ite_self]
def B0 (d:Option Nat) (tm:Tm) (r:Option (AV×Rs)) (k:Tm×Rs→Option (Tm×Rs)):Option (Tm×Rs):=r.bind fun p=>k (QeN tm d p.1,p.2)
theorem QvC {d:Option Nat} {i:I} {os:List Op'} {l:List (Nat×AV)} : QbB call n (oz d none [] i::os) (Qav l,rs)=B0 d (Qav l) (evI call n (Qav l) rs i) (QbB call (n+80) os):=by
 simp only [QbB,oz,QnC (g:=none) rfl,B0]
 cases evI call n (Qav l) rs i <;> rfl
theorem QBJ {l:List (Nat×AV)} {v:AV} {rs:Rs} {k:Tm×Rs→Option (Tm×Rs)} : B0 none (Qav l) (some (v,rs)) k=k (Qav l,rs):=(rfl)
theorem QBI {l:List (Nat×AV)} {d:Nat} {v:AV} {rs:Rs} {k:Tm×Rs→Option (Tm×Rs)} : B0 (some d) (Qav l) (some (v,rs)) k=k (Qav ((d,v)::l),rs):=(rfl)
theorem Qkv {k:Nat} : (Nat.cast (no_index (OfNat.ofNat k:Nat)):Int)=OfNat.ofNat k:=(rfl)
theorem QrM:((0:Nat):Int)=0:=(rfl)
theorem QrL:((1:Nat):Int)=1:=(rfl)
end
theorem Qx4 {E:Env} {m:Nat} {l:List Op'} {tm:Tm} {rs:Rs} {nx:Nat} {Q:Pst} (h:(m == l.length)=true):W E (.draw (sq m) l) ⟨tm,rs,nx⟩ Q=OQ (QbB (Qao E) nx l (tm,rs)) (nx+m * 80) Q:=QBQ (by simpa using h)
theorem Qrh {x:Bool} : Qta (.b x)=true:=(rfl)
theorem Qrf {k:IntKind} {x:Int} : Qta (.i k x)=true:=(rfl)
theorem Qrd {x:ByteArray} : Qta (.s x)=true:=(rfl)
theorem Qre {k:Nat} : Qta (.nl k)=true:=(rfl)
theorem Qrg {r:Nat} {q:QaO} {pv sz off len:Nat} : Qta (.slc r q pv sz off len)=true:=(rfl)
theorem Qt7 {α:Type} {e:α→List AV} {a:α} : wnd (List.map e [a]) 0 1=List.map e [a]:=(rfl)
theorem Qt6 {α:Type} {e:α→List AV} {a b:α} : wnd (List.map e [a,b]) 0 2=List.map e [a,b]:=(rfl)
theorem Qt5 {α:Type} {e:α→List AV} {a b c:α} : wnd (List.map e [a,b,c]) 0 3=List.map e [a,b,c]:=(rfl)
theorem QAt {x:List AV} {l:Els} : (x::l).getD 0 []=x:=(rfl)
theorem QAs {x:List AV} {l:Els} {n:Nat} : (x::l).getD (n+1) []=l.getD n []:=(rfl)
def sTk (call:QaM) (n:Nat) (o:Option Op') (s:Tm×Rs) (k:Tm×Rs→Option (Tm×Rs)):Option (Tm×Rs):=o.bind fun o=>(Qeo call n o s).bind k
open Classical in
noncomputable def Qyr (a b:Option (Tm×Rs)):Option (Tm×Rs):=a.bind fun r=>if b=some r then some r else none
section
variable {call:QaM} {n:Nat} {l:List Op'} {s:Tm×Rs}
theorem Qju:Qcg call n l .done s=some s:=(rfl)
theorem QlW {sc:QcZ} : Qcg call n l (tk [] sc) s=Qcg call n l sc s:=(rfl)
theorem Qjv {k:Nat} {ks:List Nat} {sc:QcZ} : Qcg call n l (tk (k::ks) sc) s=sTk call (n+k * 80) l[k]? s (Qcg call n l (tk ks sc)):=(rfl)
theorem QlX {a b:QcZ} : Qcg call n l (.alt a b) s=Qyr (Qcg call n l a s) (Qcg call n l b s):=by
 simp only [Qcg,Qyr]
theorem QlZ {o:Op'} {k:Tm×Rs→Option (Tm×Rs)} : sTk call n (some o) s k=(QbB call n [o] s).bind k:=by
 simp only [sTk,Option.bind_some,QbB]
 cases Qeo call n o s <;> rfl
end
def QkL:List Nat→Tm→Tm→Prop
 | [],_,_=>True
 | k::ks,f,g=>f k=g k∧QkL ks f g
def QkP:List Nat→Rs→Rs→Prop
 | [],_,_=>True
 | k::ks,f,g=>f k=g k∧QkP ks f g
def tks:List (Nat×AV)→List Nat→List Nat
 | [],r=>r
 | (k,_)::l,r=>k::tks l r
def rks:List (Nat×Option Qaj)→List Nat→List Nat
 | [],r=>r
 | (k,_)::l,r=>k::rks l r
theorem Qqe {f g:Tm} : QkL [] f g=True:=(rfl)
theorem QlF {k:Nat} {ks:List Nat} {f g:Tm} : QkL (k::ks) f g=(f k=g k∧QkL ks f g):=(rfl)
theorem QqB {f g:Rs} : QkP [] f g=True:=(rfl)
theorem Ql8 {k:Nat} {ks:List Nat} {f g:Rs} : QkP (k::ks) f g=(f k=g k∧QkP ks f g):=(rfl)
theorem QlE {r:List Nat} : tks [] r=r:=(rfl)
theorem Qjm {k:Nat} {v:AV} {l:List (Nat×AV)} {r:List Nat} : tks ((k,v)::l) r=k::tks l r:=(rfl)
theorem Ql3 {r:List Nat} : rks [] r=r:=(rfl)
theorem Qjz {k:Nat} {v:Option Qaj} {l:List (Nat×Option Qaj)} {r:List Nat} : rks ((k,v)::l) r=k::rks l r:=(rfl)
theorem QhJ {f g:Tm} : ∀ {ks:List Nat}, QkL ks f g→∀ k∈ks,f k=g k
 | [],_,k,h=>by cases h
 | a::ks,h,k,hk=>by
  rcases List.mem_cons.1 hk with rfl|hk
  ·exact h.1
  ·exact QhJ h.2 k hk
theorem QhS {f g:Rs} : ∀ {ks:List Nat}, QkP ks f g→∀ k∈ks,f k=g k
 | [],_,k,h=>by cases h
 | a::ks,h,k,hk=>by
  rcases List.mem_cons.1 hk with rfl|hk
  ·exact h.1
  ·exact QhS h.2 k hk
theorem Qg0 {r:List Nat} {k:Nat} : ∀ {l:List (Nat×AV)}, k∉tks l r→Qav l k = .undef∧k∉r
 | [],h=>⟨rfl,h⟩
 | (a,v)::l,h=>by
  simp only [tks,List.mem_cons,not_or] at h
  have:=Qg0 (l:=l) h.2
  exact ⟨by rw [Qjk,if_neg h.1];exact this.1,this.2⟩
theorem Qg6 {r:List Nat} {k:Nat} : ∀ {l:List (Nat×Option Qaj)}, k∉rks l r→rsL l k=none∧k∉r
 | [],h=>⟨rfl,h⟩
 | (a,v)::l,h=>by
  simp only [rks,List.mem_cons,not_or] at h
  have:=Qg6 (l:=l) h.2
  exact ⟨by rw [QfK,if_neg h.1];exact this.1,this.2⟩
theorem QrS {l l':List (Nat×AV)} {m m':List (Nat×Option Qaj)} (h1:QkL (tks l (tks l' [])) (Qav l) (Qav l')) (h2:QkP (rks m (rks m' [])) (rsL m) (rsL m')):Qyr (some (Qav l,rsL m)) (some (Qav l',rsL m'))=some (Qav l,rsL m):=by
 have e1:Qav l=Qav l':=by
  funext k
  by_cases h:k∈tks l (tks l' [])
  ·exact QhJ h1 k h
  ·rw [(Qg0 h).1,(Qg0 (Qg0 h).2).1]
 have e2:rsL m=rsL m':=by
  funext k
  by_cases h:k∈rks m (rks m' [])
  ·exact QhS h2 k h
  ·rw [(Qg6 h).1,(Qg6 (Qg6 h).2).1]
 rw [←e1, ←e2];simp [Qyr]
theorem QBm {E:Env} {ks:List Nat} {sc:QcZ} {l:List Op'} {tm:Tm} {rs:Rs} {nx:Nat} {Q:Pst} : W E (.draw (tk ks sc) l) ⟨tm,rs,nx⟩ Q=OQ (Qcg (Qao E) nx l (tk ks sc) (tm,rs)) (nx+l.length * 80) Q:=Qsb
def spV (n:Nat) (rs:Rs) (v:AV):Option (AV×Rs):=match v with
 | .agg cs=>if cs.length≤16 then some (.agg (spL n rs cs).1,(spL n rs cs).2) else none
 | v=>some ((QbW n rs v).1,(QbW n rs v).2.1)
theorem QeR {n:Nat} {rs:Rs} {v:AV} : (QbR n rs v).map (fun a=>(a.1,a.2.1))=spV n rs v:=by
 cases v <;> try rfl
 rename_i cs
 simp only [QbR,spV]
 split
 ·have:=QlK cs n rs
  simp only [Option.map_some,this.1,this.2]
 ·rfl
def spA (a:List AV×Rs):Option (AV×Rs):=some (.agg a.1,a.2)
theorem QuA {n:Nat} {rs:Rs} {cs:List AV} (h:decide (cs.length≤16)=true):spV n rs (.agg cs)=spA (spL n rs cs):=by
 have h':cs.length≤16:=by simpa using h
 simp only [spV,if_pos h',spA]
theorem QuE {cs:List AV} {rs:Rs} : spA (cs,rs)=some (.agg cs,rs):=(rfl)
theorem Qux {n r pv sz off len:Nat} {rs:Rs} : spV n rs (.slc r [] pv sz off len)=some (.slc r [] pv sz off len,rs):=(rfl)
theorem Quz {n k:Nat} {rs:Rs} : spV n rs (.nl k)=some (.nl k,rs):=(rfl)
def spS (a:AV×Rs):Option (AV×Rs):=some a
theorem QuB {a:AV} {rs:Rs} : spS (a,rs)=some (a,rs):=(rfl)
theorem Quy {n r pv sz off len i c:Nat} {rs:Rs} : spV n rs (.slc r [(i,c)] pv sz off len)=spS (spQ n r i c sz off len pv (lkA [(i,c)] pv (rs r)) (rs r) rs):=by
 have h:=Qsp (n:=n) (rs:=rs) (r:=r) (pv:=pv) (sz:=sz) (off:=off) (len:=len) (i:=i) (c:=c)
 simp only [spV,spS,h.1,h.2]
def Zs (call:QaM) (n:Nat) (d:Option Nat) (t:Nat) (i:I) (a:Option (AV×Rs)) (tm:Tm) (k:Tm×Rs→Option (Tm×Rs)):Option (Tm×Rs):=match a with
 | some a=>B0 d (up' tm t a.1) (evI call n (up' tm t a.1) a.2 i) k
 | none=>none
theorem QvD {call:QaM} {n t:Nat} {d:Option Nat} {i:I} {os:List Op'} {l:List (Nat×AV)} {rs:Rs} (h:i.isCall=false):QbB call n (oz d none [t] i::os) (Qav l,rs)=Zs call n d t i (spV (n+16) rs (Qav l t)) (Qav l) (QbB call (n+80) os):=by
 rw [←QeR]
 simp only [QbB,oz,Qeo,Qcw,Option.bind_some, ↓reduceIte,List.length_cons,List.length_nil,QbE,h,Nat.zero_add,show (1≤4)=True from eq_true (by decide),Bool.false_eq_true]
 cases QbR (n+16) rs (Qav l t) with
 | none=>rfl
 | some a =>
  simp only [Option.bind_some,Option.map_some,Zs,B0]
  cases evI call n (up' (Qav l) t a.1) a.2.1 i <;> rfl
theorem QBk {call:QaM} {n t:Nat} {d:Option Nat} {i:I} {v:AV} {m:List (Nat×Option Qaj)} {l:List (Nat×AV)} {k:Tm×Rs→Option (Tm×Rs)} : Zs call n d t i (some (v,rsL m)) (Qav l) k=B0 d (Qav ((t,v)::l)) (evI call n (Qav ((t,v)::l)) (rsL m) i) k:=(rfl)
theorem Qj4 {n:Nat} {a v:X} : I.isCall (.store n a v)=false:=(rfl)
theorem Qrm {n:Nat} {v:X} : I.isCall (.box n v)=false:=(rfl)
theorem Qrl {sz len:Nat} {z:List AV} {ps:List (Nat×X)} : I.isCall (.lit sz len z ps)=false:=(rfl)
theorem Qrn {sz b:Nat} {x y:X} : I.isCall (.app sz b x y)=false:=(rfl)
theorem R10:type_of% (And.intro @Qju<|And.intro @QlW<|And.intro @Qjv<|And.intro @QlX<|And.intro @QlZ<|And.intro @Qqe<|And.intro @QlF<|And.intro @QqB<|And.intro @Ql8<|And.intro @QlE<|And.intro @Qjm<|And.intro @Ql3<|And.intro @Qjz<|And.intro @QrS<|And.intro @QBm<|And.intro @QuA<|And.intro @QuE<|And.intro @Qux<|And.intro @Quz<|And.intro @QuB<|And.intro @Quy<|And.intro @QvD<|And.intro @QBk<|And.intro @Qj4<|And.intro @Qrm<|And.intro @Qrl<|@Qrn):=And.intro @Qju<|And.intro @QlW<|And.intro @Qjv<|And.intro @QlX<|And.intro @QlZ<|And.intro @Qqe<|And.intro @QlF<|And.intro @QqB<|And.intro @Ql8<|And.intro @QlE<|And.intro @Qjm<|And.intro @Ql3<|And.intro @Qjz<|And.intro @QrS<|And.intro @QBm<|And.intro @QuA<|And.intro @QuE<|And.intro @Qux<|And.intro @Quz<|And.intro @QuB<|And.intro @Quy<|And.intro @QvD<|And.intro @QBk<|And.intro @Qj4<|And.intro @Qrm<|And.intro @Qrl<|@Qrn
theorem Qx9 {E:Env} {x:X} {a b:C} {st:St} {Q:Pst} : WC E x .mb a b st Q=(W E a st Q∧W E b st Q):=(rfl)
theorem Qlx {α:Type} {e:α→List AV} {l:List α} {k:Nat} (h:k=l.length):wnd (l.map e) 0 k=l.map e:=by subst h;exact QgY
theorem Qkm {α:Type} {e:α→List AV} {l:List α} {k:Nat} (h:k=l.length):(l.map e).drop (0+k)=[]:=by subst h;exact Qf5
theorem QnZ {α:Type} {r sz s pv k:Nat} {e:α→List AV} {l:List α} (h:k=l.length):dcO r sz k (some ⟨true,s,pv,l.map e⟩)=some (.deep false false sz (l.map e),[⟨true,false,some (r,[])⟩]):=by subst h;exact QtG
def skP (sz off len:Nat) (a:Option (Nat×Bool×Els)):Option (AV×List Nat):=match a with
 | some (_,true,ys)=>some (.deep false true sz (wnd ys off len),[])
 | _=>none
theorem Qqn {rs:Rs} {r pv sz off len i c:Nat} : Qjq rs (.slc r [(i,c)] pv sz off len)=skP sz off len (lkA [(i,c)] pv (rs r)):=by
 simp only [Qjq,Qcj,skP]
 cases rs r with
 | none=>rfl
 | some R =>
  simp only [Option.bind_some]
  cases lkA [(i,c)] pv (some R) with
  | none=>rfl
  | some a=>obtain ⟨s,ro,ys⟩:=a;cases ro <;> rfl
theorem QuR {sz off len s:Nat} {ys:Els} : skP sz off len (some (s,true,ys))=some (.deep false true sz (wnd ys off len),[]):=(rfl)
theorem R11:type_of% (And.intro @Qx9<|And.intro @Qlx<|And.intro @Qkm<|And.intro @QnZ<|And.intro @Qqn<|And.intro @QuR @QrY):=And.intro @Qx9<|And.intro @Qlx<|And.intro @Qkm<|And.intro @QnZ<|And.intro @Qqn<|And.intro @QuR @QrY
theorem Qvk {z:List AV} : List.replicate 5 z=[z,z,z,z,z]:=(rfl)
theorem Qvj {z:List AV} : List.replicate 6 z=[z,z,z,z,z,z]:=(rfl)
theorem Qvi {z:List AV} : List.replicate 7 z=[z,z,z,z,z,z,z]:=(rfl)
theorem Qvh {z:List AV} : List.replicate 8 z=[z,z,z,z,z,z,z,z]:=(rfl)
theorem Qvg {z:List AV} : List.replicate 9 z=[z,z,z,z,z,z,z,z,z]:=(rfl)
theorem QqA {z:List AV} : List.replicate 10 z=[z,z,z,z,z,z,z,z,z,z]:=(rfl)
theorem Qqz {z:List AV} : List.replicate 11 z=[z,z,z,z,z,z,z,z,z,z,z]:=(rfl)
theorem Qqy {z:List AV} : List.replicate 12 z=[z,z,z,z,z,z,z,z,z,z,z,z]:=(rfl)
theorem Qqx {z:List AV} : List.replicate 13 z=[z,z,z,z,z,z,z,z,z,z,z,z,z]:=(rfl)
theorem Qqw {z:List AV} : List.replicate 14 z=[z,z,z,z,z,z,z,z,z,z,z,z,z,z]:=(rfl)
theorem Qqv {z:List AV} : List.replicate 15 z=[z,z,z,z,z,z,z,z,z,z,z,z,z,z,z]:=(rfl)
theorem Qqu {z:List AV} : List.replicate 16 z=[z,z,z,z,z,z,z,z,z,z,z,z,z,z,z,z]:=(rfl)
theorem Qqt {z:List AV} : List.replicate 17 z=[z,z,z,z,z,z,z,z,z,z,z,z,z,z,z,z,z]:=(rfl)
theorem QmU {a0 a1 a2 a3:Int} : Qc7 [[.i .i64 a0],[.i .i64 a1],[.i .i64 a2],[.i .i64 a3]]=List.map eI [a0,a1,a2,a3]:=(rfl)
theorem QmT {a0 a1 a2 a3 a4:Int} : Qc7 [[.i .i64 a0],[.i .i64 a1],[.i .i64 a2],[.i .i64 a3],[.i .i64 a4]]=List.map eI [a0,a1,a2,a3,a4]:=(rfl)
theorem QmS {a0 a1 a2 a3 a4 a5:Int} : Qc7 [[.i .i64 a0],[.i .i64 a1],[.i .i64 a2],[.i .i64 a3],[.i .i64 a4],[.i .i64 a5]]=List.map eI [a0,a1,a2,a3,a4,a5]:=(rfl)
theorem QmR {a0 a1 a2 a3 a4 a5 a6:Int} : Qc7 [[.i .i64 a0],[.i .i64 a1],[.i .i64 a2],[.i .i64 a3],[.i .i64 a4],[.i .i64 a5],[.i .i64 a6]]=List.map eI [a0,a1,a2,a3,a4,a5,a6]:=(rfl)
theorem QmQ {a0 a1 a2 a3 a4 a5 a6 a7:Int} : Qc7 [[.i .i64 a0],[.i .i64 a1],[.i .i64 a2],[.i .i64 a3],[.i .i64 a4],[.i .i64 a5],[.i .i64 a6],[.i .i64 a7]]=List.map eI [a0,a1,a2,a3,a4,a5,a6,a7]:=(rfl)
theorem QmP {a0 a1 a2 a3 a4 a5 a6 a7 a8:Int} : Qc7 [[.i .i64 a0],[.i .i64 a1],[.i .i64 a2],[.i .i64 a3],[.i .i64 a4],[.i .i64 a5],[.i .i64 a6],[.i .i64 a7],[.i .i64 a8]]=List.map eI [a0,a1,a2,a3,a4,a5,a6,a7,a8]:=(rfl)
theorem QjZ {a0 a1 a2 a3 a4 a5 a6 a7 a8 a9:Int} : Qc7 [[.i .i64 a0],[.i .i64 a1],[.i .i64 a2],[.i .i64 a3],[.i .i64 a4],[.i .i64 a5],[.i .i64 a6],[.i .i64 a7],[.i .i64 a8],[.i .i64 a9]]=List.map eI [a0,a1,a2,a3,a4,a5,a6,a7,a8,a9]:=(rfl)
theorem QjY {a0 a1 a2 a3 a4 a5 a6 a7 a8 a9 a10:Int} : Qc7 [[.i .i64 a0],[.i .i64 a1],[.i .i64 a2],[.i .i64 a3],[.i .i64 a4],[.i .i64 a5],[.i .i64 a6],[.i .i64 a7],[.i .i64 a8],[.i .i64 a9],[.i .i64 a10]]=List.map eI [a0,a1,a2,a3,a4,a5,a6,a7,a8,a9,a10]:=(rfl)
theorem QjX {a0 a1 a2 a3 a4 a5 a6 a7 a8 a9 a10 a11:Int} : Qc7 [[.i .i64 a0],[.i .i64 a1],[.i .i64 a2],[.i .i64 a3],[.i .i64 a4],[.i .i64 a5],[.i .i64 a6],[.i .i64 a7],[.i .i64 a8],[.i .i64 a9],[.i .i64 a10],[.i .i64 a11]]=List.map eI [a0,a1,a2,a3,a4,a5,a6,a7,a8,a9,a10,a11]:=(rfl)
theorem QjW {a0 a1 a2 a3 a4 a5 a6 a7 a8 a9 a10 a11 a12:Int} : Qc7 [[.i .i64 a0],[.i .i64 a1],[.i .i64 a2],[.i .i64 a3],[.i .i64 a4],[.i .i64 a5],[.i .i64 a6],[.i .i64 a7],[.i .i64 a8],[.i .i64 a9],[.i .i64 a10],[.i .i64 a11],[.i .i64 a12]]=List.map eI [a0,a1,a2,a3,a4,a5,a6,a7,a8,a9,a10,a11,a12]:=(rfl)
theorem QjV {a0 a1 a2 a3 a4 a5 a6 a7 a8 a9 a10 a11 a12 a13:Int} : Qc7 [[.i .i64 a0],[.i .i64 a1],[.i .i64 a2],[.i .i64 a3],[.i .i64 a4],[.i .i64 a5],[.i .i64 a6],[.i .i64 a7],[.i .i64 a8],[.i .i64 a9],[.i .i64 a10],[.i .i64 a11],[.i .i64 a12],[.i .i64 a13]]=List.map eI [a0,a1,a2,a3,a4,a5,a6,a7,a8,a9,a10,a11,a12,a13]:=(rfl)
theorem QjU {a0 a1 a2 a3 a4 a5 a6 a7 a8 a9 a10 a11 a12 a13 a14:Int} : Qc7 [[.i .i64 a0],[.i .i64 a1],[.i .i64 a2],[.i .i64 a3],[.i .i64 a4],[.i .i64 a5],[.i .i64 a6],[.i .i64 a7],[.i .i64 a8],[.i .i64 a9],[.i .i64 a10],[.i .i64 a11],[.i .i64 a12],[.i .i64 a13],[.i .i64 a14]]=List.map eI [a0,a1,a2,a3,a4,a5,a6,a7,a8,a9,a10,a11,a12,a13,a14]:=(rfl)
theorem QjT {a0 a1 a2 a3 a4 a5 a6 a7 a8 a9 a10 a11 a12 a13 a14 a15:Int} : Qc7 [[.i .i64 a0],[.i .i64 a1],[.i .i64 a2],[.i .i64 a3],[.i .i64 a4],[.i .i64 a5],[.i .i64 a6],[.i .i64 a7],[.i .i64 a8],[.i .i64 a9],[.i .i64 a10],[.i .i64 a11],[.i .i64 a12],[.i .i64 a13],[.i .i64 a14],[.i .i64 a15]]=List.map eI [a0,a1,a2,a3,a4,a5,a6,a7,a8,a9,a10,a11,a12,a13,a14,a15]:=(rfl)
theorem QjS {a0 a1 a2 a3 a4 a5 a6 a7 a8 a9 a10 a11 a12 a13 a14 a15 a16:Int} : Qc7 [[.i .i64 a0],[.i .i64 a1],[.i .i64 a2],[.i .i64 a3],[.i .i64 a4],[.i .i64 a5],[.i .i64 a6],[.i .i64 a7],[.i .i64 a8],[.i .i64 a9],[.i .i64 a10],[.i .i64 a11],[.i .i64 a12],[.i .i64 a13],[.i .i64 a14],[.i .i64 a15],[.i .i64 a16]]=List.map eI [a0,a1,a2,a3,a4,a5,a6,a7,a8,a9,a10,a11,a12,a13,a14,a15,a16]:=(rfl)
theorem QmL {a0 a1:ByteArray} : Qc7 [[.s a0],[.s a1]]=List.map eS [a0,a1]:=(rfl)
theorem QmK {a0 a1 a2:ByteArray} : Qc7 [[.s a0],[.s a1],[.s a2]]=List.map eS [a0,a1,a2]:=(rfl)
theorem QmJ {a0 a1 a2 a3:ByteArray} : Qc7 [[.s a0],[.s a1],[.s a2],[.s a3]]=List.map eS [a0,a1,a2,a3]:=(rfl)
theorem QmI {a0 a1 a2 a3 a4:ByteArray} : Qc7 [[.s a0],[.s a1],[.s a2],[.s a3],[.s a4]]=List.map eS [a0,a1,a2,a3,a4]:=(rfl)
theorem QmH {a0 a1 a2 a3 a4 a5:ByteArray} : Qc7 [[.s a0],[.s a1],[.s a2],[.s a3],[.s a4],[.s a5]]=List.map eS [a0,a1,a2,a3,a4,a5]:=(rfl)
theorem QmG {a0 a1 a2 a3 a4 a5 a6:ByteArray} : Qc7 [[.s a0],[.s a1],[.s a2],[.s a3],[.s a4],[.s a5],[.s a6]]=List.map eS [a0,a1,a2,a3,a4,a5,a6]:=(rfl)
theorem QmF {a0 a1 a2 a3 a4 a5 a6 a7:ByteArray} : Qc7 [[.s a0],[.s a1],[.s a2],[.s a3],[.s a4],[.s a5],[.s a6],[.s a7]]=List.map eS [a0,a1,a2,a3,a4,a5,a6,a7]:=(rfl)
theorem QmE {a0 a1 a2 a3 a4 a5 a6 a7 a8:ByteArray} : Qc7 [[.s a0],[.s a1],[.s a2],[.s a3],[.s a4],[.s a5],[.s a6],[.s a7],[.s a8]]=List.map eS [a0,a1,a2,a3,a4,a5,a6,a7,a8]:=(rfl)
theorem QjR {a0 a1 a2 a3 a4 a5 a6 a7 a8 a9:ByteArray} : Qc7 [[.s a0],[.s a1],[.s a2],[.s a3],[.s a4],[.s a5],[.s a6],[.s a7],[.s a8],[.s a9]]=List.map eS [a0,a1,a2,a3,a4,a5,a6,a7,a8,a9]:=(rfl)
theorem QjQ {a0 a1 a2 a3 a4 a5 a6 a7 a8 a9 a10:ByteArray} : Qc7 [[.s a0],[.s a1],[.s a2],[.s a3],[.s a4],[.s a5],[.s a6],[.s a7],[.s a8],[.s a9],[.s a10]]=List.map eS [a0,a1,a2,a3,a4,a5,a6,a7,a8,a9,a10]:=(rfl)
theorem QjP {a0 a1 a2 a3 a4 a5 a6 a7 a8 a9 a10 a11:ByteArray} : Qc7 [[.s a0],[.s a1],[.s a2],[.s a3],[.s a4],[.s a5],[.s a6],[.s a7],[.s a8],[.s a9],[.s a10],[.s a11]]=List.map eS [a0,a1,a2,a3,a4,a5,a6,a7,a8,a9,a10,a11]:=(rfl)
theorem QjO {a0 a1 a2 a3 a4 a5 a6 a7 a8 a9 a10 a11 a12:ByteArray} : Qc7 [[.s a0],[.s a1],[.s a2],[.s a3],[.s a4],[.s a5],[.s a6],[.s a7],[.s a8],[.s a9],[.s a10],[.s a11],[.s a12]]=List.map eS [a0,a1,a2,a3,a4,a5,a6,a7,a8,a9,a10,a11,a12]:=(rfl)
theorem QjN {a0 a1 a2 a3 a4 a5 a6 a7 a8 a9 a10 a11 a12 a13:ByteArray} : Qc7 [[.s a0],[.s a1],[.s a2],[.s a3],[.s a4],[.s a5],[.s a6],[.s a7],[.s a8],[.s a9],[.s a10],[.s a11],[.s a12],[.s a13]]=List.map eS [a0,a1,a2,a3,a4,a5,a6,a7,a8,a9,a10,a11,a12,a13]:=(rfl)
theorem QjM {a0 a1 a2 a3 a4 a5 a6 a7 a8 a9 a10 a11 a12 a13 a14:ByteArray} : Qc7 [[.s a0],[.s a1],[.s a2],[.s a3],[.s a4],[.s a5],[.s a6],[.s a7],[.s a8],[.s a9],[.s a10],[.s a11],[.s a12],[.s a13],[.s a14]]=List.map eS [a0,a1,a2,a3,a4,a5,a6,a7,a8,a9,a10,a11,a12,a13,a14]:=(rfl)
theorem QjL {a0 a1 a2 a3 a4 a5 a6 a7 a8 a9 a10 a11 a12 a13 a14 a15:ByteArray} : Qc7 [[.s a0],[.s a1],[.s a2],[.s a3],[.s a4],[.s a5],[.s a6],[.s a7],[.s a8],[.s a9],[.s a10],[.s a11],[.s a12],[.s a13],[.s a14],[.s a15]]=List.map eS [a0,a1,a2,a3,a4,a5,a6,a7,a8,a9,a10,a11,a12,a13,a14,a15]:=(rfl)
theorem R12:type_of% (And.intro @Qvk<|And.intro @Qvj<|And.intro @Qvi<|And.intro @Qvh<|And.intro @Qvg<|And.intro @QqA<|And.intro @Qqz<|And.intro @Qqy<|And.intro @Qqx<|And.intro @Qqw<|And.intro @Qqv<|And.intro @Qqu<|And.intro @Qqt<|And.intro @QmU<|And.intro @QmT<|And.intro @QmS<|And.intro @QmR<|And.intro @QmQ<|And.intro @QmP<|And.intro @QjZ<|And.intro @QjY<|And.intro @QjX<|And.intro @QjW<|And.intro @QjV<|And.intro @QjU<|And.intro @QjT<|And.intro @QjS<|And.intro @QmL<|And.intro @QmK<|And.intro @QmJ<|And.intro @QmI<|And.intro @QmH<|And.intro @QmG<|And.intro @QmF<|And.intro @QmE<|And.intro @QjR<|And.intro @QjQ<|And.intro @QjP<|And.intro @QjO<|And.intro @QjN<|And.intro @QjM<|@QjL):=And.intro @Qvk<|And.intro @Qvj<|And.intro @Qvi<|And.intro @Qvh<|And.intro @Qvg<|And.intro @QqA<|And.intro @Qqz<|And.intro @Qqy<|And.intro @Qqx<|And.intro @Qqw<|And.intro @Qqv<|And.intro @Qqu<|And.intro @Qqt<|And.intro @QmU<|And.intro @QmT<|And.intro @QmS<|And.intro @QmR<|And.intro @QmQ<|And.intro @QmP<|And.intro @QjZ<|And.intro @QjY<|And.intro @QjX<|And.intro @QjW<|And.intro @QjV<|And.intro @QjU<|And.intro @QjT<|And.intro @QjS<|And.intro @QmL<|And.intro @QmK<|And.intro @QmJ<|And.intro @QmI<|And.intro @QmH<|And.intro @QmG<|And.intro @QmF<|And.intro @QmE<|And.intro @QjR<|And.intro @QjQ<|And.intro @QjP<|And.intro @QjO<|And.intro @QjN<|And.intro @QjM<|@QjL
theorem Qz7:decide ([]:List Nat).Nodup=true:=(rfl)
theorem Qz6 {a:Nat} : decide [a].Nodup=true:=by simp
theorem Qz5 {a b:Nat} (h:decide (a≠b)=true):decide [a,b].Nodup=true:=by simpa using h
theorem Qz4 {a b c:Nat} (h:decide (a≠b)=true) (h2:decide (a≠c)=true) (h3:decide (b≠c)=true):decide [a,b,c].Nodup=true:=by simp_all
theorem QA6 {a:Nat} : ([]:List Nat).contains a=false:=(rfl)
theorem QA5 {a b:Nat} {l:List Nat} : (b::l).contains a=(a == b || l.contains a):=(rfl)
theorem R9:type_of% (And.intro @Qkv<|And.intro @QAt<|And.intro @QAs<|And.intro @Qt7<|And.intro @Qt6<|And.intro @Qt5<|And.intro @Qz7<|And.intro @Qz6<|And.intro @Qz5<|And.intro @Qz4<|And.intro @QA6<|@QA5):=And.intro @Qkv<|And.intro @QAt<|And.intro @QAs<|And.intro @Qt7<|And.intro @Qt6<|And.intro @Qt5<|And.intro @Qz7<|And.intro @Qz6<|And.intro @Qz5<|And.intro @Qz4<|And.intro @QA6<|@QA5
theorem R0:type_of% (And.intro @QBn<|And.intro @Qx5<|And.intro @Qx8<|And.intro @Qr8<|And.intro @Qsa<|And.intro @Qx6<|And.intro @QBo<|And.intro @Qsc<|And.intro @QBp<|And.intro @QBq<|And.intro @Qr9<|And.intro @Qmn<|And.intro @QvE<|And.intro @QqO<|And.intro @QqP<|And.intro @QqN<|And.intro @Qor<|And.intro @Qsd<|And.intro @QBy<|And.intro @QBx<|And.intro @QBs<|And.intro @QBt<|And.intro @QBr<|And.intro @QBF<|And.intro @QBG<|And.intro @QBE<|And.intro @QBv<|And.intro @QBw<|And.intro @QBu<|And.intro @QBA<|And.intro @QBB<|And.intro @QBz<|And.intro @Qjk<|And.intro @Qqd<|And.intro @QfK<|And.intro @Qqs<|And.intro @Qub<|And.intro @Qc1<|And.intro @x_t<|And.intro @x_k<|And.intro @QAd<|And.intro @Qrq<|And.intro @QqF<|And.intro @QqG<|And.intro @Qwl<|And.intro @QxU<|And.intro @QxC<|And.intro @QxK<|And.intro @QxL<|@QxM):=And.intro @QBn<|And.intro @Qx5<|And.intro @Qx8<|And.intro @Qr8<|And.intro @Qsa<|And.intro @Qx6<|And.intro @QBo<|And.intro @Qsc<|And.intro @QBp<|And.intro @QBq<|And.intro @Qr9<|And.intro @Qmn<|And.intro @QvE<|And.intro @QqO<|And.intro @QqP<|And.intro @QqN<|And.intro @Qor<|And.intro @Qsd<|And.intro @QBy<|And.intro @QBx<|And.intro @QBs<|And.intro @QBt<|And.intro @QBr<|And.intro @QBF<|And.intro @QBG<|And.intro @QBE<|And.intro @QBv<|And.intro @QBw<|And.intro @QBu<|And.intro @QBA<|And.intro @QBB<|And.intro @QBz<|And.intro @Qjk<|And.intro @Qqd<|And.intro @QfK<|And.intro @Qqs<|And.intro @Qub<|And.intro @Qc1<|And.intro @x_t<|And.intro @x_k<|And.intro @QAd<|And.intro @Qrq<|And.intro @QqF<|And.intro @QqG<|And.intro @Qwl<|And.intro @QxU<|And.intro @QxC<|And.intro @QxK<|And.intro @QxL<|@QxM
theorem R1:type_of% (And.intro @QxN<|And.intro @QxO<|And.intro @QxQ<|And.intro @QxI<|And.intro @QxT<|And.intro @QBh<|And.intro @QxB<|And.intro @QxE<|And.intro @QxD<|And.intro @QxG<|And.intro @QxF<|And.intro @QxR<|And.intro @QxJ<|And.intro @QxP<|And.intro @QxH<|And.intro @QxS<|And.intro @QrZ<|And.intro @wrap_i64<|And.intro @Qls<|And.intro @QAc<|And.intro @Qqb<|And.intro @Qqc<|And.intro @Qru<|And.intro @QrI<|And.intro @Qrr<|And.intro @QqV<|And.intro @QqW<|And.intro @QqX<|And.intro @Qz8<|And.intro @Qz9<|And.intro @Qrt<|And.intro @Qrk<|And.intro @QuI<|And.intro @QuJ<|And.intro @Qqj<|And.intro @Qwh<|And.intro @QwP<|And.intro @QwN<|And.intro @QwO<|And.intro @QrE<|And.intro @QAP<|And.intro @QAO<|And.intro @QAN<|And.intro @Qni<|And.intro @Qoh<|And.intro @Qky<|And.intro @Qxs<|And.intro @Qxr<|And.intro @Ql9<|@QjC):=And.intro @QxN<|And.intro @QxO<|And.intro @QxQ<|And.intro @QxI<|And.intro @QxT<|And.intro @QBh<|And.intro @QxB<|And.intro @QxE<|And.intro @QxD<|And.intro @QxG<|And.intro @QxF<|And.intro @QxR<|And.intro @QxJ<|And.intro @QxP<|And.intro @QxH<|And.intro @QxS<|And.intro @QrZ<|And.intro @wrap_i64<|And.intro @Qls<|And.intro @QAc<|And.intro @Qqb<|And.intro @Qqc<|And.intro @Qru<|And.intro @QrI<|And.intro @Qrr<|And.intro @QqV<|And.intro @QqW<|And.intro @QqX<|And.intro @Qz8<|And.intro @Qz9<|And.intro @Qrt<|And.intro @Qrk<|And.intro @QuI<|And.intro @QuJ<|And.intro @Qqj<|And.intro @Qwh<|And.intro @QwP<|And.intro @QwN<|And.intro @QwO<|And.intro @QrE<|And.intro @QAP<|And.intro @QAO<|And.intro @QAN<|And.intro @Qni<|And.intro @Qoh<|And.intro @Qky<|And.intro @Qxs<|And.intro @Qxr<|And.intro @Ql9<|@QjC
theorem R2:type_of% (And.intro @Qnf<|And.intro @Qnt<|And.intro @Qns<|And.intro @Qmr<|And.intro @Qwg<|And.intro @QwI<|And.intro @Qwf<|And.intro @Qv4<|And.intro @Qv3<|And.intro @Qv2<|And.intro @Qne<|And.intro @Qna<|And.intro @Qng<|And.intro @Qnv<|And.intro @Qrs<|And.intro @Qq2<|And.intro @QfQ<|And.intro @Qq3<|And.intro @Qm2<|And.intro @Qq1<|And.intro @Qh6<|And.intro @QgD<|And.intro @Qq8<|And.intro @Qra<|And.intro @Qq6<|And.intro @Qq9<|And.intro @Qq7<|And.intro @Qq0<|And.intro @QjJ<|And.intro @QjK<|And.intro @QrK<|And.intro @QhN<|And.intro @Qgy<|And.intro @QuT<|And.intro @QuS<|And.intro @Qqp<|And.intro @Qqo<|And.intro @Qql<|And.intro @QlN<|And.intro @Qqm<|And.intro @QuQ<|And.intro @QuP<|And.intro @Qob<|And.intro @Qoa<|And.intro @Qn8<|And.intro @Qn6<|And.intro @Qn7<|And.intro @Qn9<|And.intro @Qwk<|@Qxp):=And.intro @Qnf<|And.intro @Qnt<|And.intro @Qns<|And.intro @Qmr<|And.intro @Qwg<|And.intro @QwI<|And.intro @Qwf<|And.intro @Qv4<|And.intro @Qv3<|And.intro @Qv2<|And.intro @Qne<|And.intro @Qna<|And.intro @Qng<|And.intro @Qnv<|And.intro @Qrs<|And.intro @Qq2<|And.intro @QfQ<|And.intro @Qq3<|And.intro @Qm2<|And.intro @Qq1<|And.intro @Qh6<|And.intro @QgD<|And.intro @Qq8<|And.intro @Qra<|And.intro @Qq6<|And.intro @Qq9<|And.intro @Qq7<|And.intro @Qq0<|And.intro @QjJ<|And.intro @QjK<|And.intro @QrK<|And.intro @QhN<|And.intro @Qgy<|And.intro @QuT<|And.intro @QuS<|And.intro @Qqp<|And.intro @Qqo<|And.intro @Qql<|And.intro @QlN<|And.intro @Qqm<|And.intro @QuQ<|And.intro @QuP<|And.intro @Qob<|And.intro @Qoa<|And.intro @Qn8<|And.intro @Qn6<|And.intro @Qn7<|And.intro @Qn9<|And.intro @Qwk<|@Qxp
theorem R3:type_of% (And.intro @Qnj<|And.intro @Qnb<|And.intro @Quf<|And.intro @Quh<|And.intro @Qul<|And.intro @Qum<|And.intro @QuX<|And.intro @d_b<|And.intro @d_i<|And.intro @d_s<|And.intro @d_d<|And.intro @Qw8<|And.intro @Qwc<|And.intro @QvQ<|And.intro @QvR<|And.intro @QvZ<|And.intro @QvY<|And.intro @QvX<|And.intro @QnO<|And.intro @Qkl<|And.intro @Qin<|And.intro @QwV<|And.intro @QAX<|And.intro @QAU<|And.intro @QwU<|And.intro @QwT<|And.intro @QAW<|And.intro @QAT<|And.intro @QAQ<|And.intro @QAS<|And.intro @QwS<|And.intro @QAV<|And.intro @QAR<|And.intro @QnY<|And.intro @Qkr<|And.intro @QA4<|And.intro @QA3<|And.intro @QAY<|And.intro @QA2<|And.intro @Qw3<|And.intro @QAZ<|And.intro @Qw4<|And.intro @QA1<|And.intro @QtG<|And.intro @Qw7<|And.intro @QA0<|And.intro @Qw6<|And.intro @Qw5<|And.intro @Qx3<|And.intro @Qx2<|And.intro @Qx1<|@Qua):=And.intro @Qnj<|And.intro @Qnb<|And.intro @Quf<|And.intro @Quh<|And.intro @Qul<|And.intro @Qum<|And.intro @QuX<|And.intro @d_b<|And.intro @d_i<|And.intro @d_s<|And.intro @d_d<|And.intro @Qw8<|And.intro @Qwc<|And.intro @QvQ<|And.intro @QvR<|And.intro @QvZ<|And.intro @QvY<|And.intro @QvX<|And.intro @QnO<|And.intro @Qkl<|And.intro @Qin<|And.intro @QwV<|And.intro @QAX<|And.intro @QAU<|And.intro @QwU<|And.intro @QwT<|And.intro @QAW<|And.intro @QAT<|And.intro @QAQ<|And.intro @QAS<|And.intro @QwS<|And.intro @QAV<|And.intro @QAR<|And.intro @QnY<|And.intro @Qkr<|And.intro @QA4<|And.intro @QA3<|And.intro @QAY<|And.intro @QA2<|And.intro @Qw3<|And.intro @QAZ<|And.intro @Qw4<|And.intro @QA1<|And.intro @QtG<|And.intro @Qw7<|And.intro @QA0<|And.intro @Qw6<|And.intro @Qw5<|And.intro @Qx3<|And.intro @Qx2<|And.intro @Qx1<|@Qua
theorem R4:type_of% (And.intro @Qt9<|And.intro @Qt8<|And.intro @Qom<|And.intro @QkE<|And.intro @QqI<|And.intro @Qvr<|And.intro @Qvs<|And.intro @Qmc<|And.intro @QqH<|And.intro @Qvt<|And.intro @Qhn<|And.intro @QpD<|And.intro @QpA<|And.intro @Qpz<|And.intro @Qpx<|And.intro @QpC<|And.intro @Qpy<|And.intro @QpE<|And.intro @QpB<|And.intro @Qhr<|And.intro @QpS<|And.intro @QpQ<|And.intro @QpP<|And.intro @QpR<|And.intro @QqK<|And.intro @Qmk<|And.intro @QqR<|And.intro @Qmq<|And.intro @QvF<|And.intro @QvI<|And.intro @QvH<|And.intro @QvG<|And.intro @Qp8<|And.intro @QlB<|And.intro @QBd<|And.intro @QrR<|And.intro @Qoe<|And.intro @QrU<|And.intro @QBg<|And.intro @QBf<|And.intro @QAh<|And.intro @QAf<|And.intro @QAe<|And.intro @QAg<|And.intro @QAi<|And.intro @Qrw<|And.intro @QAm<|And.intro @QAk<|And.intro @QAj<|And.intro @QAl<|@Qof):=And.intro @Qt9<|And.intro @Qt8<|And.intro @Qom<|And.intro @QkE<|And.intro @QqI<|And.intro @Qvr<|And.intro @Qvs<|And.intro @Qmc<|And.intro @QqH<|And.intro @Qvt<|And.intro @Qhn<|And.intro @QpD<|And.intro @QpA<|And.intro @Qpz<|And.intro @Qpx<|And.intro @QpC<|And.intro @Qpy<|And.intro @QpE<|And.intro @QpB<|And.intro @Qhr<|And.intro @QpS<|And.intro @QpQ<|And.intro @QpP<|And.intro @QpR<|And.intro @QqK<|And.intro @Qmk<|And.intro @QqR<|And.intro @Qmq<|And.intro @QvF<|And.intro @QvI<|And.intro @QvH<|And.intro @QvG<|And.intro @Qp8<|And.intro @QlB<|And.intro @QBd<|And.intro @QrR<|And.intro @Qoe<|And.intro @QrU<|And.intro @QBg<|And.intro @QBf<|And.intro @QAh<|And.intro @QAf<|And.intro @QAe<|And.intro @QAg<|And.intro @QAi<|And.intro @Qrw<|And.intro @QAm<|And.intro @QAk<|And.intro @QAj<|And.intro @QAl<|@Qof
theorem R5:type_of% (And.intro @Qhz<|And.intro @Qkz<|And.intro @Qzc<|And.intro @Qzb<|And.intro @Qza<|And.intro @Qys<|And.intro @QtM<|And.intro @QtO<|And.intro @QtN<|And.intro @QtL<|And.intro @QnU<|And.intro @Qw0<|And.intro @QwZ<|And.intro @QwY<|And.intro @QnT<|And.intro @QAq<|And.intro @QAo<|And.intro @QAp<|And.intro @Quo<|And.intro @Qqh<|And.intro @Quq<|And.intro @Qun<|And.intro @Qxz<|And.intro @Qxx<|And.intro @QrV<|And.intro @Qxy<|And.intro @QrW<|And.intro @QrX<|And.intro @Qwm<|And.intro @QxW<|And.intro @Qx0<|And.intro @Qr3<|And.intro @QxX<|And.intro @QxY<|And.intro @Qr2<|And.intro @Qr1<|And.intro @Qf5<|And.intro @Qio<|And.intro @Qwe<|And.intro @Qrx<|And.intro @Qnl<|And.intro @Qwr<|And.intro @Qv0<|And.intro @Qvp<|And.intro @Qvo<|And.intro @Qvn<|And.intro @Qvm<|And.intro @Qvl<|And.intro @Qq4<|@QmX):=And.intro @Qhz<|And.intro @Qkz<|And.intro @Qzc<|And.intro @Qzb<|And.intro @Qza<|And.intro @Qys<|And.intro @QtM<|And.intro @QtO<|And.intro @QtN<|And.intro @QtL<|And.intro @QnU<|And.intro @Qw0<|And.intro @QwZ<|And.intro @QwY<|And.intro @QnT<|And.intro @QAq<|And.intro @QAo<|And.intro @QAp<|And.intro @Quo<|And.intro @Qqh<|And.intro @Quq<|And.intro @Qun<|And.intro @Qxz<|And.intro @Qxx<|And.intro @QrV<|And.intro @Qxy<|And.intro @QrW<|And.intro @QrX<|And.intro @Qwm<|And.intro @QxW<|And.intro @Qx0<|And.intro @Qr3<|And.intro @QxX<|And.intro @QxY<|And.intro @Qr2<|And.intro @Qr1<|And.intro @Qf5<|And.intro @Qio<|And.intro @Qwe<|And.intro @Qrx<|And.intro @Qnl<|And.intro @Qwr<|And.intro @Qv0<|And.intro @Qvp<|And.intro @Qvo<|And.intro @Qvn<|And.intro @Qvm<|And.intro @Qvl<|And.intro @Qq4<|@QmX
theorem R6:type_of% (And.intro @QmZ<|And.intro @QmY<|And.intro @QmM<|And.intro @QmW<|And.intro @QmV<|And.intro @Qwj<|And.intro @QzK<|And.intro @Qxo<|And.intro @QrP<|And.intro @QrQ<|And.intro @QuL<|And.intro @QuM<|And.intro @Qqk<|And.intro @QuK<|And.intro @QgY<|And.intro @Qlw<|And.intro @Qhi<|And.intro @QbA<|And.intro @Qb6<|And.intro @QBC<|And.intro @QBD<|And.intro @QwR<|And.intro @QwQ<|And.intro @QvT<|And.intro @Qoi<|And.intro @Qxu<|And.intro @Qxt<|And.intro @Qxv<|And.intro @Qxw<|And.intro @Qqr<|And.intro @QzI<|And.intro @Qu8<|And.intro @QzJ<|And.intro @Qu7<|And.intro @Qqf<|And.intro @Qzq<|And.intro @Qzp<|And.intro @Qzl<|And.intro @Qzo<|And.intro @Qzm<|And.intro @Que<|And.intro @Qzn<|And.intro @QuD<|And.intro @QuC<|And.intro @Qud<|And.intro @Qzr<|And.intro @Quc<|And.intro @Qmb<|And.intro @QlI<|@Quw):=And.intro @QmZ<|And.intro @QmY<|And.intro @QmM<|And.intro @QmW<|And.intro @QmV<|And.intro @Qwj<|And.intro @QzK<|And.intro @Qxo<|And.intro @QrP<|And.intro @QrQ<|And.intro @QuL<|And.intro @QuM<|And.intro @Qqk<|And.intro @QuK<|And.intro @QgY<|And.intro @Qlw<|And.intro @Qhi<|And.intro @QbA<|And.intro @Qb6<|And.intro @QBC<|And.intro @QBD<|And.intro @QwR<|And.intro @QwQ<|And.intro @QvT<|And.intro @Qoi<|And.intro @Qxu<|And.intro @Qxt<|And.intro @Qxv<|And.intro @Qxw<|And.intro @Qqr<|And.intro @QzI<|And.intro @Qu8<|And.intro @QzJ<|And.intro @Qu7<|And.intro @Qqf<|And.intro @Qzq<|And.intro @Qzp<|And.intro @Qzl<|And.intro @Qzo<|And.intro @Qzm<|And.intro @Que<|And.intro @Qzn<|And.intro @QuD<|And.intro @QuC<|And.intro @Qud<|And.intro @Qzr<|And.intro @Quc<|And.intro @Qmb<|And.intro @QlI<|@Quw
theorem R7:type_of% (And.intro @Quv<|And.intro @Qur<|And.intro @Quu<|And.intro @Qus<|And.intro @Qut<|And.intro @Qqi<|And.intro @QqJ<|And.intro @Qmh<|And.intro @Qvz<|And.intro @QzV<|And.intro @Qvy<|And.intro @QzU<|And.intro @QzS<|And.intro @QzP<|And.intro @QzR<|And.intro @QzT<|And.intro @QzQ<|And.intro @QqQ<|And.intro @Qmp<|And.intro @Qz1<|And.intro @Qz0<|And.intro @QzW<|And.intro @QzZ<|And.intro @QzX<|And.intro @QvL<|And.intro @QvM<|And.intro @QzY<|And.intro @QvN<|And.intro @Qyb<|And.intro @Qm5<|And.intro @Qhj<|And.intro @Qp7<|And.intro @QiE<|And.intro @Qz2<|And.intro @Qz3<|And.intro @Qwb<|And.intro @Qro<|And.intro @Qrp<|And.intro @Qnh<|And.intro @Qnd<|And.intro @QvC<|And.intro @QBJ<|And.intro @QBI<|And.intro @Qx4<|And.intro @Qrh<|And.intro @Qrf<|And.intro @Qrd<|And.intro @Qre<|And.intro @Qrg<|@QrM):=And.intro @Quv<|And.intro @Qur<|And.intro @Quu<|And.intro @Qus<|And.intro @Qut<|And.intro @Qqi<|And.intro @QqJ<|And.intro @Qmh<|And.intro @Qvz<|And.intro @QzV<|And.intro @Qvy<|And.intro @QzU<|And.intro @QzS<|And.intro @QzP<|And.intro @QzR<|And.intro @QzT<|And.intro @QzQ<|And.intro @QqQ<|And.intro @Qmp<|And.intro @Qz1<|And.intro @Qz0<|And.intro @QzW<|And.intro @QzZ<|And.intro @QzX<|And.intro @QvL<|And.intro @QvM<|And.intro @QzY<|And.intro @QvN<|And.intro @Qyb<|And.intro @Qm5<|And.intro @Qhj<|And.intro @Qp7<|And.intro @QiE<|And.intro @Qz2<|And.intro @Qz3<|And.intro @Qwb<|And.intro @Qro<|And.intro @Qrp<|And.intro @Qnh<|And.intro @Qnd<|And.intro @QvC<|And.intro @QBJ<|And.intro @QBI<|And.intro @Qx4<|And.intro @Qrh<|And.intro @Qrf<|And.intro @Qrd<|And.intro @Qre<|And.intro @Qrg<|@QrM
theorem R8:type_of% (And.intro @QrL<|And.intro @List.getElem?_cons_zero.{0} <| And.intro @List.getElem?_cons_succ.{0} <| And.intro @List.getElem?_nil.{0} <| And.intro @List.length_cons.{0} <| And.intro @List.length_nil.{0} <| And.intro @List.length_set.{0} <| And.intro @List.set_cons_zero.{0} <| And.intro @List.set_cons_succ.{0} <| And.intro @List.take_succ_cons.{0} <| And.intro @List.take_zero.{0} <| And.intro @List.take_nil.{0} <| And.intro @List.drop_succ_cons.{0} <| And.intro @List.drop_zero.{0} <| And.intro @List.drop_nil.{0} <| And.intro @List.nil_append.{0} <| And.intro @List.cons_append.{0} <| And.intro @List.append_nil.{0} <| And.intro @Option.map_some.{0,0} <| And.intro @Option.map_none.{0,0} <| And.intro @Option.bind_some.{0,0} <| And.intro @Option.some.injEq.{0} <| And.intro @Bool.not_true<|And.intro @Bool.not_false<|And.intro @Bool.and_true<|And.intro @Bool.true_and<|And.intro @Bool.or_true<|And.intro @Bool.true_or<|And.intro @Bool.or_false<|And.intro @Bool.false_or<|And.intro @Bool.false_and<|And.intro @Bool.and_false<|And.intro @Bool.not_not<|And.intro @decide_true<|@decide_false):=And.intro @QrL<|And.intro @List.getElem?_cons_zero.{0} <| And.intro @List.getElem?_cons_succ.{0} <| And.intro @List.getElem?_nil.{0} <| And.intro @List.length_cons.{0} <| And.intro @List.length_nil.{0} <| And.intro @List.length_set.{0} <| And.intro @List.set_cons_zero.{0} <| And.intro @List.set_cons_succ.{0} <| And.intro @List.take_succ_cons.{0} <| And.intro @List.take_zero.{0} <| And.intro @List.take_nil.{0} <| And.intro @List.drop_succ_cons.{0} <| And.intro @List.drop_zero.{0} <| And.intro @List.drop_nil.{0} <| And.intro @List.nil_append.{0} <| And.intro @List.cons_append.{0} <| And.intro @List.append_nil.{0} <| And.intro @Option.map_some.{0,0} <| And.intro @Option.map_none.{0,0} <| And.intro @Option.bind_some.{0,0} <| And.intro @Option.some.injEq.{0} <| And.intro @Bool.not_true<|And.intro @Bool.not_false<|And.intro @Bool.and_true<|And.intro @Bool.true_and<|And.intro @Bool.or_true<|And.intro @Bool.true_or<|And.intro @Bool.or_false<|And.intro @Bool.false_or<|And.intro @Bool.false_and<|And.intro @Bool.and_false<|And.intro @Bool.not_not<|And.intro @decide_true<|@decide_false
theorem QlC {n:Nat} : tmA n []=[]:=(rfl)
theorem Qjl {n:Nat} {v:AV} {l:List AV} : tmA n (v::l)=(n,v)::tmA (n+1) l:=(rfl)
theorem Ql2 {n:Nat} : rsA n []=[]:=(rfl)
theorem Qjy {n:Nat} {v:Option Qaj} {l:List (Option Qaj)} : rsA n (v::l)=(n,v)::rsA (n+1) l:=(rfl)
theorem Qvw {o:Bool} {s p:Nat} {x:Els} : Qaj.own ⟨o,s,p,x⟩=o:=(rfl)
theorem SN:type_of% (And.intro @Qhn<|And.intro @QpD<|And.intro @QpA<|And.intro @Qpz<|And.intro @Qpx<|And.intro @QpC<|And.intro @Qpy<|And.intro @QpE<|And.intro @QpB<|And.intro @Qhr<|And.intro @QpS<|And.intro @QpQ<|And.intro @QpP<|And.intro @QpR<|And.intro @Qhi<|And.intro @List.map_cons.{0,0} <| And.intro @List.map_nil.{0,0} <| And.intro @List.nil_append.{0} <| And.intro @List.cons_append.{0} <| And.intro @List.append_nil.{0} <| And.intro @List.length_cons.{0} <| And.intro @List.length_nil.{0} <| And.intro @Bool.not_true<|And.intro @Bool.not_false<|And.intro @Nat.zero_add<|And.intro @QlC<|And.intro @Qjl<|And.intro @Ql2<|And.intro @Qjy<|@Qvw):=And.intro @Qhn<|And.intro @QpD<|And.intro @QpA<|And.intro @Qpz<|And.intro @Qpx<|And.intro @QpC<|And.intro @Qpy<|And.intro @QpE<|And.intro @QpB<|And.intro @Qhr<|And.intro @QpS<|And.intro @QpQ<|And.intro @QpP<|And.intro @QpR<|And.intro @Qhi<|And.intro @List.map_cons.{0,0} <| And.intro @List.map_nil.{0,0} <| And.intro @List.nil_append.{0} <| And.intro @List.cons_append.{0} <| And.intro @List.append_nil.{0} <| And.intro @List.length_cons.{0} <| And.intro @List.length_nil.{0} <| And.intro @Bool.not_true<|And.intro @Bool.not_false<|And.intro @Nat.zero_add<|And.intro @QlC<|And.intro @Qjl<|And.intro @Ql2<|And.intro @Qjy<|@Qvw
theorem RX:type_of% (And.intro @Qnu<|And.intro @QqZ<|And.intro @QmB<|And.intro @QqU<|And.intro @Qrv<|And.intro @Qxn<|And.intro @Qxl<|And.intro @Qxm<|And.intro @Qxj @Qxk):=And.intro @Qnu<|And.intro @QqZ<|And.intro @QmB<|And.intro @QqU<|And.intro @Qrv<|And.intro @Qxn<|And.intro @Qxl<|And.intro @Qxm<|And.intro @Qxj @Qxk
theorem RN:type_of% (And.intro R0<|And.intro R1<|And.intro R2<|And.intro R3<|And.intro R4<|And.intro R5<|And.intro R6<|And.intro R7<|And.intro R8<|And.intro R9<|And.intro R10<|And.intro R11<|And.intro R12 RX):=And.intro R0<|And.intro R1<|And.intro R2<|And.intro R3<|And.intro R4<|And.intro R5<|And.intro R6<|And.intro R7<|And.intro R8<|And.intro R9<|And.intro R10<|And.intro R11<|And.intro R12 RX
end
end Go.Proofs.YtallpjhkmcgpoaaGreat.V
end
section
namespace Go.Proofs.YtallpjhkmcgpoaaGreat.V
open Go
def QhB (w:World) (av:AV) (v:Value) (G:Gh):Prop:=match av with
 | .deep p bo sz ys=>HdR w (G []) p bo sz ys.length v∧Qbg w true sz G ys
 | .undef=>False
 | av=>QaR w (fun _=>none) av v
def Qd9 (w:World) (avs:List AV) (cs:List Value):Prop:=avs.length=cs.length∧∀ (c:Nat) av v,avs[c]? = some av→cs[c]? = some v→v.oneCell'=true∧∃ G,QhB w av v G
theorem Qd9.append {w:World} {a b:List AV} {cs ds:List Value} (h:Qd9 w a cs) (h':Qd9 w b ds):Qd9 w (a++b) (cs++ds):=by
 refine ⟨by simp [h.1,h'.1],fun c av v h1 h2 => ?_⟩
 by_cases hc:c<a.length
 ·rw [List.getElem?_append_left hc] at h1
  rw [List.getElem?_append_left (by rw [←h.1];exact hc)] at h2
  exact h.2 c av v h1 h2
 ·rw [List.getElem?_append_right (by omega)] at h1
  rw [List.getElem?_append_right (by rw [←h.1];omega), ←h.1] at h2
  exact h'.2 _ av v h1 h2
theorem QhB.cellR {w:World} {B:Gh} {av:AV} {v:Value} {G:Gh} (h:QhB w av v G) (hB:B []=G []):QaR w B av v:=by
 cases av with
 | deep p bo sz ys=>simp only [QaR,hB];exact h.1
 | undef=>exact h.elim
 | _=>first|exact h|exact (show False from h).elim
theorem Qsn {w:World} {sz b o n:Nat} {xs:Els} {cs:Nat→List Value} (hn:xs.length=n) (hsz:∀ (i:Nat) el,xs[i]? = some el→el.length=sz)
 (hc:∀ (i:Nat) el,xs[i]? = some el→Qd9 w el (cs i)) {cur:Array Value} (hb:Blk w b true cur) (hcur:∀ i,i<n→∀ (c:Nat) v,(cs i)[c]? = some v→cur[o+i * sz+c]? = some v) :
 ∃ G:Gh,G []=some (b,o)∧Qbg w true sz G xs:=by
 have hG:∀ i c,∃ G:Gh,∀ av v,QW xs i c=some av→(cs i)[c]? = some v→v.oneCell'=true∧QhB w av v G:=fun i c=>by
  cases h1:QW xs i c with
  | none=>exact ⟨fun _=>none,fun av v h=>by cases h⟩
  | some av =>
   cases h2:(cs i)[c]? with
   | none=>exact ⟨fun _=>none,fun av v _ h=>by cases h⟩
   | some v =>
    obtain ⟨el,e1,e2⟩:=Qas h1
    obtain ⟨h3,G,h4⟩:=(hc i el e1).2 c av v e2 h2
    refine ⟨G,fun av' v' e e' => ?_⟩
    injection e with e;injection e' with e'
    subst e;subst e';exact ⟨h3,h4⟩
 let Gs:Nat→Nat→Gh:=fun i c=>Classical.choose (hG i c)
 have hGs:∀ i c av v,QW xs i c=some av→(cs i)[c]? = some v→v.oneCell'=true∧QhB w av v (Gs i c):=fun i c=>Classical.choose_spec (hG i c)
 have hval:∀ i c av,QW xs i c=some av→∃ v,(cs i)[c]? = some v∧i<n:=fun i c av h=>by
  obtain ⟨el,e1,e2⟩:=Qas h
  have hl:=(hc i el e1).1
  have hlt:=(List.getElem?_eq_some_iff.1 e2).1
  exact ⟨_,List.getElem?_eq_getElem (by rw [←hl];exact hlt),by have:=(List.getElem?_eq_some_iff.1 e1).1;omega⟩
 let G:Gh:=fun p=>match p with|[]=>some (b,o)|(i,c)::q=>Gs i c q
 refine ⟨G,rfl,Qbg.mk' ⟨hsz, ?_⟩ fun i c p bo sz' ys h => ?_⟩
 ·show ∃ cur,Blk w b true cur∧_
  refine ⟨cur,hb,fun i c cell h => ?_⟩
  obtain ⟨v,h1,h2⟩:=hval i c cell h
  obtain ⟨h3,h4⟩:=hGs i c cell v h h1
  exact ⟨v,hcur i h2 c v h1,h3,h4.cellR rfl⟩
 ·obtain ⟨v,h1,h2⟩:=hval i c _ h
  exact (hGs i c _ v h h1).2.2
def OpV (P:Program) (t:TypeId) {α:Type} (e:α→List AV) (Q:α→Prop):Prop :=
 ∀ {H:Type} (enc:TypeId×Value→H) (W:World) (fuel:Nat) (cs:List Value) (x:DataW H×List MemPlace),
  DataW.trod enc P W 0 (fun _=>true) true fuel t cs=some x→∃ a,Qd9 W (e a) cs∧Q a
theorem QeI {w:World} {av:AV} {v:Value} (h1:v.oneCell'=true) {G:Gh} (h:QhB w av v G):Qd9 w [av] [v] :=
 ⟨rfl,fun c av' v' e1 e2=>by
  cases c with
  | zero=>simp only [List.getElem?_cons_zero,Option.some.injEq] at e1 e2;subst e1;subst e2;exact ⟨h1,G,h⟩
  | succ c=>simp at e1⟩
theorem QsX {P:Program} {t:TypeId} {k:IntKind} (hu:P.underlying t=some (.int k)):OpV P t (fun n:Int=>[.i k n]) (fun n=>(Lit.int k n).wf=true):=by
 intro H enc W fuel cs x h
 obtain ⟨n,rfl,_,hw⟩:=DataW.trod_int hu h
 exact ⟨n,QeI rfl (G:=fun _=>none) (by simp [QhB,QaR]),hw⟩
theorem QvA {P:Program} {t:TypeId} (hu:P.underlying t=some (.int .u8)):OpV P t e8 (fun n=>(Lit.int .u8 n).wf=true):=QsX hu
theorem Qi5 {α:Type} {n:Nat} {p:Nat→α→Prop} (h:∀ i,i<n→∃ x,p i x):∃ l:List α,l.length=n∧∀ (i:Nat) x,l[i]? = some x→p i x:=by
 induction n with
 | zero=>exact ⟨[],rfl,fun i x hx=>by simp at hx⟩
 | succ n ih =>
  obtain ⟨l,hl,hp⟩:=ih (fun i hi=>h i (Nat.lt_succ_of_lt hi))
  obtain ⟨x,hx⟩:=h n (Nat.lt_succ_self n)
  refine ⟨l++[x],by simp [hl],fun i y hy => ?_⟩
  rcases Nat.lt_or_ge i n with hi|hi
  ·rw [List.getElem?_append_left (by omega)] at hy
   exact hp i y hy
  ·rw [List.getElem?_append_right (by omega)] at hy
   have hi':i=n:=by
    rcases Nat.lt_or_ge n i with h1|h1
    ·rw [List.getElem?_eq_none (by simp;omega)] at hy
     cases hy
    ·omega
   subst hi'
   rw [hl,Nat.sub_self] at hy
   simp at hy
   subst hy
   exact hx
theorem Qml {P:Program} {t e:TypeId} {α:Type} {en:α→List AV} {Q:α→Prop} {sz:Nat} (hu:P.underlying t=some (.slice e)) (hc:P.cellsOf e=sz) (hz:0<sz) (hl:∀ a,(en a).length=sz) (he:OpV P e en Q) :
 OpV P t (eL sz true en) (fun xs=>xs.length≤maxLen∧∀ x∈xs,Q x):=by
 intro H enc W fuel cs x h
 rcases Go.Deep.open_slice hu h with ⟨rfl,_⟩|⟨a,len,cap,m,n,D,Pl,rfl,_,hlc,hm,hmm,_,hx⟩
 ·refine ⟨[],QeI rfl (G:=fun _=>none) ?_,Nat.zero_le _,fun x hx=>by cases hx⟩
  exact ⟨⟨rfl,none,rfl⟩,Qbg.mk' ⟨fun i el he=>by simp at he,rfl⟩ (fun i c p bo sz' zs hc=>by simp [QW] at hc)⟩
 ·have hmm':m=cap:=by simpa using hmm
  subst hmm'
  rw [hc] at hx
  have hx':∀ i,i<m→∃ cs',W.cells? 0 (a.add (i * sz)) sz=some cs'∧∃ y,Qd9 W (en y) cs'∧Q y:=fun i hi=>by
   obtain ⟨cs',h1,h2⟩:=hx i hi
   obtain ⟨y,h3,h4⟩:=he enc W n cs' _ h2
   exact ⟨cs',h1,y,h3,h4⟩
  let cs:Nat→List Value:=fun i=>if h:i<m then Classical.choose (hx' i h) else []
  have hcs:∀ i,i<m→W.cells? 0 (a.add (i * sz)) sz=some (cs i)∧∃ y,Qd9 W (en y) (cs i)∧Q y:=fun i h=>by
   have:=Classical.choose_spec (hx' i h)
   simp only [cs,dif_pos h];exact this
  obtain ⟨l,hll,hp⟩:=Qi5 (n:=len) (p:=fun i (y:α)=>Qd9 W (en y) (cs i)∧Q y) (fun i hi=>(hcs i (by omega)).2)
  have hml:len≤maxLen:=Nat.le_trans hlc hm
  refine ⟨l, ?_,by omega,fun x hx => ?_⟩
  ·rcases Nat.eq_zero_or_pos m with h0|h0
   ·subst h0
    have:l=[]:=List.length_eq_zero_iff.1 (by omega)
    subst this
    have:len=0:=by omega
    subst this
    refine QeI rfl (G:=fun _=>none) ?_
    exact ⟨⟨rfl,some a,rfl⟩,Qbg.mk' ⟨fun i el he=>by simp at he,rfl⟩ (fun i c p bo sz' zs hc=>by simp [QW] at hc)⟩
   ·
    have at':∀ i,i<m→∀ c,c<sz→W.cell? ((a.add (i * sz)).add c)=(cs i)[c]? ∧ c<(cs i).length:=fun i hi c hcz=>by
     obtain ⟨_,h2,h3⟩:=World.cells?_some (hcs i hi).1
     exact ⟨h3 c hcz,by omega⟩
    obtain ⟨v0,hv0⟩:∃ v,W.cell? a=some v:=by
     have h:=at' 0 h0 0 hz
     have e0:(a.add (0 * sz)).add 0=a:=by simp [Addr.add]
     rw [e0,List.getElem?_eq_getElem h.2] at h
     exact ⟨_,h.1⟩
    obtain ⟨b,o,spot⟩:=a
    have hsp:spot=none∧∃ cur e fr,W.heap[b]? = some (.cells cur e fr):=by
     unfold World.cell? at hv0
     split at hv0
     ·rename_i c e fr hh
      split at hv0
      ·cases hv0
      ·rename_i hs
       refine ⟨by cases spot with|none=>rfl|some _=>simp at hs,c,e,fr,hh⟩
     ·cases hv0
    obtain ⟨rfl,cur,ty,fr,hW⟩:=hsp
    have cell:∀ k v,W.cell? ⟨b,k,none⟩=some v→cur[k]? = some v:=fun k v h=>by
     unfold World.cell? at h
     simp only [hW] at h
     simpa using h
    have hcur:∀ i,i<m→∀ (c:Nat) v,(cs i)[c]? = some v→cur[o+i * sz+c]? = some v:=fun i hi c v h=>by
     have hcl:c<sz:=by
      obtain ⟨_,h2,_⟩:=World.cells?_some (hcs i hi).1
      have:=(List.getElem?_eq_some_iff.1 h).1
      omega
     have h1:=(at' i hi c hcl).1
     rw [h,Go.Deep.add_add] at h1
     refine cell _ v ?_
     rw [←h1]
     congr 1
     unfold Addr.add
     split
     ·rename_i h9;rw [show o+i * sz+c=o by omega]
     ·simp only [Addr.mk.injEq,and_true,true_and];omega
    have hbig:Big W b (o+m * sz,false):=by
     refine ⟨cur,ty,fr,hW, ?_,fun h=>by cases h⟩
     obtain ⟨k,rfl⟩:∃ k,m=k+1:=⟨m-1,by omega⟩
     have h1:=at' k (by omega) (sz-1) (by omega)
     have h2:=hcur k (by omega) (sz-1) _ (List.getElem?_eq_getElem h1.2)
     have h3:=(Array.getElem?_eq_some_iff.1 h2).1
     rw [Nat.succ_mul];omega
    have hsz:∀ (i:Nat) el,(l.map en)[i]? = some el→el.length=sz:=fun i el h=>by
     rw [List.getElem?_map] at h
     cases h2:l[i]? with
     | none=>rw [h2] at h;cases h
     | some y=>rw [h2] at h;simp only [Option.map_some,Option.some.injEq] at h;rw [←h];exact hl y
    obtain ⟨G,hG,hT⟩:=Qsn (w:=W) (sz:=sz) (b:=b) (o:=o) (n:=len) (xs:=l.map en) (cs:=cs) (by simp [hll]) hsz (fun i el h=>by
     rw [List.getElem?_map] at h
     cases h2:l[i]? with
     | none=>rw [h2] at h;cases h
     | some y=>rw [h2] at h;simp only [Option.map_some,Option.some.injEq] at h;rw [←h];exact (hp i y h2).1) (cur:=cur) ⟨ty,fr,hW,fun h=>by cases h⟩ (fun i hi=>hcur i (by omega))
    refine QeI rfl (G:=G) ⟨?_,hT⟩
    rw [hG]
    exact ⟨m,by rw [List.length_map,hll],by rw [List.length_map,hll];exact hlc,hbig⟩
  ·obtain ⟨i,hi⟩:=List.getElem?_of_mem hx
   exact (hp i x hi).2
theorem QyM {w:World} {av:AV} {v:Value} {G:Gh} (h:QhB w av v G) (hb:∀ p bo sz ys,av = .deep p bo sz ys→bo=true):∃ gs,HC w av v gs:=by
 unfold QhB at h
 split at h
 ·rename_i p bo sz ys
  obtain rfl:=hb _ _ _ _ rfl
  exact ⟨[G],G,rfl,h.1,h.2⟩
 ·exact h.elim
 ·rename_i h1 h2
  refine ⟨[], ?_⟩
  unfold HC
  split
  ·exact absurd rfl (h1 _ _ _ _)
  ·exact absurd rfl h2
  ·simp only [QaR] at h
  ·exact ⟨rfl,h⟩
theorem Qlk {P:Program} {t:TypeId} {α:Type} {en:α→List AV} {sz:Nat} {Q:List α→Prop} (h:OpV P t (eL sz true en) Q) {H:Type} {enc:TypeId×Value→H} {W:World} {v:Value} {x:DataW H} {ps:List MemPlace} {e:TypeId} (hu:P.underlying t=some (.slice e)) {r:Reach} {b0:Nat}
 (hv:Value.okWide P W r b0 t v) (hf:DataW.Trod enc P W 0 (fun _=>true) true t v x ps):∃ l:List α,(∃ gs,HV W (.deep false true sz (l.map en)) v gs)∧Q l:=by
 obtain ⟨a,len,cap,rfl⟩:=Go.WideShapes.okWide_slice hu hv
 obtain ⟨fuel,hf⟩:=hf
 obtain ⟨l,hC,hq⟩:=h enc W fuel _ _ hf
 obtain ⟨_,G,hG⟩:=hC.2 0 _ _ rfl rfl
 exact ⟨l,QyM hG (fun _ _ _ _ e=>by injection e with _ e;exact e.symm),hq⟩
theorem Qtd {w:World} : HVs w [] [] []:=⟨rfl,rfl⟩
theorem Qpm {w:World} {av:AV} {v:Value} {g:List Gh} {avs:List AV} {vs:List Value} {gs:List Gh} (h:HV w av v g) (h':HVs w avs vs gs):HVs w (av::avs) (v::vs) (g++gs):=⟨v,vs,g,gs,rfl,rfl,h,h'⟩
theorem Qm4 {P:Program} {f:Nat} {ds:List AV} {r:Bool} {bs:List (Option Els)} (h:Ctr P f ds ([.b r],bs)) (hro:(QaJ ds).all (fun R => !R.own)=true) {W:World} {args:List Value} {gs:List Gh} (hv:HVs W ds args gs) :
 Calls P f args.toArray W fun e w'=>e = .returned (.bool r)∧Go.RowKit.Below W.heap.size W w':=by
 have hno:∀ k ρ b,¬KOf (QaJ ds) gs false k ρ b:=fun k ρ b ⟨R,G,e1,e2,e3⟩=>by
  have:=List.all_eq_true.1 hro R (List.mem_of_getElem? e1)
  obtain ⟨s,ys,o,h1,h2⟩:=e3
  have hr:R.own=false:=by simpa using this
  rw [hr] at h1
  have:=Qcv ρ h1
  cases this
 have hrg:=(Qdp hv 0).1
 refine (h W (fun b=>b<W.heap.size) args gs (fun b hb=>hb) hv (fun k ρ b ⟨R,G,e1,e2,e3⟩ => ?_) (fun k ρ b hk=>absurd hk (hno k ρ b)) (fun k ρ k' ρ' b hk=>absurd hk (hno k ρ b))).mono ?_
 ·obtain ⟨s,ys,o,h1,h2⟩:=e3
  rw [QdB ds 0] at hrg
  obtain ⟨G',e2',ht⟩:=hrg.2 k R e1
  rw [e2] at e2';injection e2' with e2';subst e2'
  have h3:=(ht ρ s _ ys h1).2
  have h4:(G.from' ρ) []=some (b,o):=by simpa [Gh.from'] using h2
  rw [h4] at h3
  obtain ⟨cur,⟨ty,fr,h5,_⟩,_⟩:=h3
  rcases Nat.lt_or_ge b W.heap.size with h|h
  ·exact h
  ·rw [Array.getElem?_eq_none h] at h5;cases h5
 ·rintro e w' ⟨v,vs,gs',gb,rfl,hp⟩
  have hres:=hp.res
  obtain ⟨v1,vs1,g1,g2,e1,e2,h1,h2⟩:=hres
  obtain ⟨e3,e4⟩:=h2
  subst e3
  have hv1:v1 = .bool r:=by
   have:HC w' (.b r) v1 g1:=h1
   have:=this.2
   simpa [QaR] using this
  refine ⟨by rw [hp.val,e1,hv1];rfl,hp.os,hp.tape,hp.output,hp.size,fun k hk=>hp.block k hk fun k' ρ hk'=>hno _ _ _ hk'⟩
end Go.Proofs.YtallpjhkmcgpoaaGreat.V
end
section
namespace Go.Proofs.YtallpjhkmcgpoaaGreat.V
open Go
def stP (k r j d i c:Nat) (vs:List AV) (asx:List Nat) (a:Option (Nat×Bool×Els)) (R:Option Qaj) (rs:Rs):Option (AV×Rs):=match R,a with
 | some R,some (_,false,ys)=>stQ k r j d i c vs asx R ys[i]? rs
 | _,_=>none
where stQ (k r j d i c:Nat) (vs:List AV) (asx:List Nat) (R:Qaj) (el:Option (List AV)) (rs:Rs):Option (AV×Rs):=match el with
 | some el=>if (vs.length == k && decide (c+k≤el.length) && !asx.contains r && decide asx.Nodup)=true then some (.undef,up' (kill rs asx) r (some { R with pv:=if Qa7 vs then R.pv+1 else R.pv,xs:=QbK R.xs [(j,d)] fun ys=>QaY ys i c vs })) else none
 | none=>none
theorem Qug {rs:Rs} {k r j d pv i c:Nat} {vs:List AV} {asx:List Nat} : QwB k (.ptr r [(j,d)] pv i c) (some (vs,asx)) rs=stP k r j d i c vs asx (lkA [(j,d)] pv (rs r)) (rs r) rs:=by
 simp only [QwB,Qcj,stP]
 cases rs r with
 | none=>rfl
 | some R =>
  simp only [Option.bind_some]
  cases lkA [(j,d)] pv (some R) with
  | none=>rfl
  | some a =>
   obtain ⟨s,ro,ys⟩:=a
   cases ro
   ·simp only [Option.map_some,Option.bind_some,stP.stQ]
    cases ys[i]? with
    | none=>rfl
    | some el =>
     simp only [Option.bind_some]
     congr 1
     simp [and_assoc,List.contains_iff_mem]
   ·simp only [Option.map_some,Option.bind_some,Bool.true_eq_false,false_and, ↓reduceIte]
    cases ys[i]? <;> rfl
theorem Quk {rs:Rs} {k r j d i c sz:Nat} {vs:List AV} {asx:List Nat} {R:Qaj} {ys:Els} : stP k r j d i c vs asx (some (sz,false,ys)) (some R) rs=stP.stQ k r j d i c vs asx R ys[i]? rs:=(rfl)
def mdC (xs:Els) (j d:Nat) (g:Els→Els) (cell:Option AV):Els:=match cell with
 | some (.deep p bo sz ys)=>QaY xs j d [.deep p bo sz (g ys)]
 | _=>xs
theorem Qui {k r j d i c sz pv:Nat} {vs:List AV} {asx:List Nat} {xs:Els} {el:List AV} {l:List (Nat×Option Qaj)} (h:(vs.length == k && decide (c+k≤el.length) && !asx.contains r && decide asx.Nodup)=true) (hd:Qa7 vs=false) :
 stP.stQ k r j d i c vs asx ⟨true,sz,pv,xs⟩ (some el) (rsL l)=some (.undef,up' (kill (rsL l) asx) r (some ⟨true,sz,pv,mdC xs j d (fun ys=>QaY ys i c vs) (QW xs j d)⟩)):=by
 simp only [stP.stQ,h,hd, ↓reduceIte,Bool.false_eq_true];rfl
theorem Quj {k r j d i c sz pv:Nat} {vs:List AV} {asx:List Nat} {xs:Els} {el:List AV} {l:List (Nat×Option Qaj)} (h:(vs.length == k && decide (c+k≤el.length) && !asx.contains r && decide asx.Nodup)=true) (hd:Qa7 vs=true) :
 stP.stQ k r j d i c vs asx ⟨true,sz,pv,xs⟩ (some el) (rsL l)=some (.undef,up' (kill (rsL l) asx) r (some ⟨true,sz,pv+1,mdC xs j d (fun ys=>QaY ys i c vs) (QW xs j d)⟩)):=by
 simp only [stP.stQ,h,hd, ↓reduceIte];rfl
theorem QvS {xs:Els} {j d:Nat} {g:Els→Els} {p bo:Bool} {sz:Nat} {ys:Els} : mdC xs j d g (some (.deep p bo sz ys))=QaY xs j d [.deep p bo sz (g ys)]:=(rfl)
def hol (xs:Els) (i c:Nat):Els:=QaY xs i c [.undef]
def hcU (xs:Els) (i c:Nat) (cell:Option AV):Option AV:=match cell with
 | some _=>some .undef
 | none=>QW (QaY xs i c [.undef]) i c
theorem Qj8 {xs:Els} {i c:Nat} : QW (hol xs i c) i c=hcU xs i c (QW xs i c):=by
 cases e:QW xs i c with
 | none=>rfl
 | some v =>
  obtain ⟨el,h1,h2⟩:=Qas e
  have hc:c<el.length:=(List.getElem?_eq_some_iff.1 h2).1
  simp only [hol,hcU]
  rw [QbT h1 (by simp;omega),if_pos ⟨rfl,Nat.le_refl _,by simp⟩]
  simp
theorem Qwp {xs:Els} {i c:Nat} {v:AV} : hcU xs i c (some v)=some .undef:=(rfl)
def hsE (xs:Els) (i c:Nat) (v:AV) (cell:Option AV):Els:=match cell with
 | some _=>QaY xs i c [v]
 | none=>QaY (hol xs i c) i c [v]
theorem Qnk {xs:Els} {i c:Nat} {v:AV} : QaY (hol xs i c) i c [v]=hsE xs i c v (QW xs i c):=by
 cases e:QW xs i c with
 | none=>rfl
 | some w =>
  obtain ⟨el,h1,h2⟩:=Qas e
  have hc:c<el.length:=(List.getElem?_eq_some_iff.1 h2).1
  have hi:i<xs.length:=(List.getElem?_eq_some_iff.1 h1).1
  simp only [hsE,hol]
  have e1:(QaY xs i c [.undef])[i]? = some (el.take c++[AV.undef]++el.drop (c+1)):=by rw [Qev h1,if_pos rfl];rfl
  have hl:(el.take c).length=c:=by simp;omega
  have gen:∀ a b:List AV,a.length=c→(a++[AV.undef]++b).take c++[v]++(a++[AV.undef]++b).drop (c+1)=a++[v]++b:=fun a b ha=>by
   have h1:(a++[AV.undef]++b).take c=a:=by rw [List.append_assoc];exact List.take_left' ha
   have h2:(a++[AV.undef]++b).drop (c+1)=b:=List.drop_left' (by simp [ha])
   rw [h1,h2]
  simp only [QaY,h1,List.getElem?_set_self hi,List.set_set,List.length_cons,List.length_nil]
  congr 1
  exact gen _ _ hl
theorem Qwn {xs:Els} {i c:Nat} {v w:AV} : hsE xs i c v (some w)=QaY xs i c [v]:=(rfl)
theorem Qwo {el:List AV} {l:Els} {c:Nat} : hol (el::l) 0 c=(el.take c++[.undef]++el.drop (c+1))::l:=(rfl)
def gQ (n r i c sz off len pv:Nat) (cell:Option AV) (R:Option Qaj) (rs:Rs):Option (AV×Rs×List Pl):=match R,cell with
 | some ⟨true,s',p,xs⟩,some (.deep q false s ys)=>if pv=p then some (.slc n [] 0 sz off len,up' (up' rs r (some ⟨true,s',p,hol xs i c⟩)) n (some ⟨true,s,0,ys⟩),if q then [] else [⟨r,i,c,n⟩]) else some (.slc r [(i,c)] pv sz off len,rs,[])
 | _,_=>some (.slc r [(i,c)] pv sz off len,rs,[])
theorem QyA {rs:Rs} {n r i c pv sz off len:Nat} : QbR n rs (.slc r [(i,c)] pv sz off len)=gQ n r i c sz off len pv ((rs r).bind fun R=>QW R.xs i c) (rs r) rs:=by
 simp only [QbR,QbW,Qc2,gQ,QcV]
 cases e:rs r with
 | none=>rfl
 | some R =>
  obtain ⟨o,s',p,xs⟩:=R
  simp only [Option.bind_some,Qaj.arr]
  by_cases hp:pv=p
  ·subst hp
   simp only [↓reduceIte,QaB]
   cases e2:QW xs i c with
   | none=>cases o <;> rfl
   | some v =>
    cases v with
    | deep q bo s ys=>cases o <;> cases bo <;> cases q <;> simp [QAb,hol,Qcb,QbK,e2]
    | _=>cases o <;> rfl
  ·simp only [hp, ↓reduceIte]
   cases o <;> cases QW xs i c <;> try rfl
   rename_i v
   cases v <;> try rfl
   rename_i q bo s ys
   cases bo
   ·simp only [Option.map_none,hp, ↓reduceIte]
   ·rfl
theorem QAx {n r i c sz off len pv s s':Nat} {xs ys:Els} {m:List (Nat×Option Qaj)} : gQ n r i c sz off len pv (some (.deep false false s ys)) (some ⟨true,s',pv,xs⟩) (rsL m)=some (.slc n [] 0 sz off len,rsL ((n,some ⟨true,s,0,ys⟩)::(r,some ⟨true,s',pv,hol xs i c⟩)::m),[⟨r,i,c,n⟩]):=by
 simp only [gQ, ↓reduceIte,Bool.false_eq_true,Qc1]
theorem QAz {rs:Rs} {n r i c sz off len pv s:Nat} {p:Bool} {R:Option Qaj} {ys:Els} : gQ n r i c sz off len pv (some (.deep p true s ys)) R rs=some (.slc r [(i,c)] pv sz off len,rs,[]):=by
 cases R with
 | none=>rfl
 | some R=>obtain ⟨o,s',q,xs⟩:=R;cases o <;> rfl
theorem QAy {rs:Rs} {n r i c sz off len pv s' q:Nat} {cell:Option AV} {xs:Els} : gQ n r i c sz off len pv cell (some ⟨false,s',q,xs⟩) rs=some (.slc r [(i,c)] pv sz off len,rs,[]):=by
 cases cell with
 | none=>rfl
 | some v=>cases v <;> rfl
theorem Qzs {rs:Rs} {n r pv sz off len:Nat} : QbR n rs (.slc r [] pv sz off len)=some (.slc r [] pv sz off len,rs,[]):=(rfl)
theorem Qzu {rs:Rs} {n k:Nat} : QbR n rs (.nl k)=some (.nl k,rs,[]):=(rfl)
theorem Qzt {rs:Rs} {n r pv i c:Nat} {q:QaO} : QbR n rs (.ptr r q pv i c)=some (.ptr r q pv i c,rs,[]):=(rfl)
def sA (a:List AV×Rs×List Pl):Option (AV×Rs×List Pl):=some (.agg a.1,a.2)
theorem QzG {cs:List AV} {a:Rs×List Pl} : sA (cs,a)=some (.agg cs,a):=(rfl)
theorem Qzv {rs:Rs} {n:Nat} {cs:List AV} (h:decide (cs.length≤16)=true):QbR n rs (.agg cs)=sA (Qbk n rs cs):=by
 have h':cs.length≤16:=by simpa using h
 simp only [QbR,if_pos h',sA]
def Qk3 (v:AV) (a:List AV×Rs×List Pl):List AV×Rs×List Pl:=(v::a.1,a.2)
theorem Qnn {v:AV} {cs:List AV} {a:Rs×List Pl} : Qk3 v (cs,a)=(v::cs,a):=(rfl)
theorem Qqq {rs:Rs} {n:Nat} : Qbk n rs []=([],rs,[]):=(rfl)
theorem QzE {rs:Rs} {n:Nat} {x:Bool} {cs:List AV} : Qbk n rs (.b x::cs)=Qk3 (.b x) (Qbk (n+1) rs cs):=(rfl)
theorem QzD {rs:Rs} {n:Nat} {k:IntKind} {x:Int} {cs:List AV} : Qbk n rs (.i k x::cs)=Qk3 (.i k x) (Qbk (n+1) rs cs):=(rfl)
theorem Qzz {rs:Rs} {n:Nat} {x:ByteArray} {cs:List AV} : Qbk n rs (.s x::cs)=Qk3 (.s x) (Qbk (n+1) rs cs):=(rfl)
theorem QzC {rs:Rs} {n k:Nat} {cs:List AV} : Qbk n rs (.nl k::cs)=Qk3 (.nl k) (Qbk (n+1) rs cs):=(rfl)
theorem QzA {rs:Rs} {n r pv sz off len:Nat} {cs:List AV} : Qbk n rs (.slc r [] pv sz off len::cs)=Qk3 (.slc r [] pv sz off len) (Qbk (n+1) rs cs):=(rfl)
def BG (d:Option Nat) (tm:Tm) (rs0:Rs) (pl:List Pl) (r:Option (AV×Rs)) (k:Tm×Rs→Option (Tm×Rs)):Option (Tm×Rs):=r.bind fun p=>B0 d tm (some (p.1,QcD rs0 p.2 pl)) k
theorem QBH {d:Option Nat} {tm:Tm} {rs0 rs:Rs} {pl:List Pl} {v:AV} {k:Tm×Rs→Option (Tm×Rs)} : BG d tm rs0 pl (some (v,rs)) k=B0 d tm (some (v,QcD rs0 rs pl)) k:=(rfl)
def Zg (call:QaM) (n:Nat) (d:Option Nat) (t:Nat) (i:I) (a:Option (AV×Rs×List Pl)) (tm:Tm) (k:Tm×Rs→Option (Tm×Rs)):Option (Tm×Rs):=match a with
 | some a=>BG d (up' tm t a.1) a.2.1 a.2.2 (evI call n (up' tm t a.1) a.2.1 i) k
 | none=>none
theorem QqL {call:QaM} {n t:Nat} {d:Option Nat} {i:I} {os:List Op'} {l:List (Nat×AV)} {rs:Rs} (h:i.isCall=true):QbB call n (oz d none [t] i::os) (Qav l,rs)=Zg call n d t i (QbR (n+16) rs (Qav l t)) (Qav l) (QbB call (n+80) os):=by
 simp only [QbB,oz,Qeo,Qcw,Option.bind_some, ↓reduceIte,List.length_cons,List.length_nil,QbE,h,Nat.zero_add,show (1≤4)=True from eq_true (by decide),Bool.false_eq_true]
 cases QbR (n+16) rs (Qav l t) with
 | none=>rfl
 | some a =>
  simp only [Option.bind_some,Option.map_some,Zg,BG,B0,List.append_nil]
  cases evI call n (up' (Qav l) t a.1) a.2.1 i <;> rfl
theorem QBl {call:QaM} {n t:Nat} {d:Option Nat} {i:I} {v:AV} {pl:List Pl} {m:List (Nat×Option Qaj)} {l:List (Nat×AV)} {k:Tm×Rs→Option (Tm×Rs)} : Zg call n d t i (some (v,rsL m,pl)) (Qav l) k=BG d (Qav ((t,v)::l)) (rsL m) pl (evI call n (Qav ((t,v)::l)) (rsL m) i) k:=(rfl)
theorem Qm9 {f:Nat} {ms:List Bool} {xs:List X} : I.isCall (.call f ms xs)=true:=(rfl)
theorem Qj5 {g:X} {ms:List Bool} {xs:List X} : I.isCall (.callv g ms xs)=true:=(rfl)
def rgS (r i c n:Nat) (R0 R Ri:Option Qaj) (rs:Rs):Rs:=match R0,R,Ri with
 | some R0,some R,some Ri=>if (R0.pv == R.pv)=true then rgC r i c n R Ri (QW R.xs i c) rs else rs
 | _,_,_=>rs
where rgC (r i c n:Nat) (R Ri:Qaj) (cell:Option AV) (rs:Rs):Rs:=match cell with
 | some .undef=>if R.own=true∧Ri.own=true∧r≠n then up' (kill rs [n]) r (some { R with pv:=R.pv+1,xs:=QaY R.xs i c [.deep false false Ri.sz Ri.xs] }) else rs
 | _=>rs
theorem QzN {rs0 rs:Rs} {r i c n:Nat} : QcD rs0 rs [⟨r,i,c,n⟩]=rgS r i c n (rs0 r) (rs r) (rs n) rs:=by
 have h:QcD rs0 rs [⟨r,i,c,n⟩]=if same rs0 rs ⟨r,i,c,n⟩=true then Qbx rs ⟨r,i,c,n⟩ else rs:=by
  cases h:same rs0 rs ⟨r,i,c,n⟩ <;> simp [QcD,h]
 rw [h]
 cases e0:rs0 r with
 | none=>simp [same,rgS,e0]
 | some R0 =>
  cases e:rs r with
  | none=>simp [same,rgS,e0,e]
  | some R =>
   cases e2:rs n with
   | none=>simp [same,rgS,Qbx,e0,e,e2]
   | some Ri=>simp only [same,rgS,Qbx,e0,e,e2];rfl
theorem Qvc {r i c n s s' s'' p p':Nat} {o0:Bool} {x0 xs ys:Els} {m:List (Nat×Option Qaj)} (h:decide (r≠n)=true):rgS r i c n (some ⟨o0,s'',p,x0⟩) (some ⟨true,s',p,xs⟩) (some ⟨true,s,p',ys⟩) (rsL m)=rgS.rgC r i c n ⟨true,s',p,xs⟩ ⟨true,s,p',ys⟩ (QW xs i c) (rsL m):=by
 simp only [rgS,beq_self_eq_true, ↓reduceIte]
theorem Qve {r i c n s s' p p':Nat} {xs ys:Els} {m:List (Nat×Option Qaj)} (h:decide (r≠n)=true):rgS.rgC r i c n ⟨true,s',p,xs⟩ ⟨true,s,p',ys⟩ (some .undef) (rsL m)=rsL ((r,some ⟨true,s',p+1,QaY xs i c [.deep false false s ys]⟩)::(n,none)::m):=by
 have h':r≠n:=by simpa using h
 simp only [rgS.rgC,h',ne_eq,not_false_eq_true,and_self, ↓reduceIte,Qb6,QbA,Qc1]
theorem Qvb {r i c n:Nat} {R0 R:Option Qaj} {rs:Rs} : rgS r i c n R0 R none rs=rs:=by cases R0 <;> cases R <;> rfl
def QyO (v:AV) (pl:List Pl) (a:List AV×Rs×List Pl):List AV×Rs×List Pl:=(v::a.1,a.2.1,pl++a.2.2)
theorem Qry {v:AV} {pl pl':List Pl} {cs:List AV} {rs:Rs} : QyO v pl (cs,rs,pl')=(v::cs,rs,pl++pl'):=(rfl)
def gC (n:Nat) (a:Option (AV×Rs×List Pl)) (cs:List AV):List AV×Rs×List Pl:=match a with
 | some (v,rs,pl)=>QyO v pl (Qbk (n+1) rs cs)
 | none=>([],fun _=>none,[])
theorem QAF {n:Nat} {v:AV} {rs:Rs} {pl:List Pl} {cs:List AV} : gC n (some (v,rs,pl)) cs=QyO v pl (Qbk (n+1) rs cs):=(rfl)
theorem QzB {rs:Rs} {n r i c pv sz off len:Nat} {cs:List AV} : Qbk n rs (.slc r [(i,c)] pv sz off len::cs)=gC n (gQ n r i c sz off len pv ((rs r).bind fun R=>QW R.xs i c) (rs r) rs) cs:=by
 rw [←QyA];rfl
def smR (R0 R:Option Qaj):Bool:=match R0,R with
 | some R0,some R=>R0.pv == R.pv
 | _,_=>false
theorem QuG {o0 o:Bool} {s0 s p:Nat} {x0 xs:Els} : smR (some ⟨o0,s0,p,x0⟩) (some ⟨o,s,p,xs⟩)=true:=by simp only [smR,beq_self_eq_true]
def rgT (a b:Bool) (p q:Pl) (rs:Rs):Rs:=if a=true then (if b=true then Qbx (Qbx rs p) q else Qbx rs p) else (if b=true then Qbx rs q else rs)
theorem Qva {p q:Pl} {rs:Rs} : rgT true true p q rs=Qbx (Qbx rs p) q:=(rfl)
theorem QzM {rs0 rs:Rs} {r i c n r2 i2 c2 n2:Nat} : QcD rs0 rs [⟨r,i,c,n⟩,⟨r2,i2,c2,n2⟩]=rgT (smR (rs0 r) (rs r)) (smR (rs0 r2) (rs r2)) ⟨r,i,c,n⟩ ⟨r2,i2,c2,n2⟩ rs:=by
 have h1:smR (rs0 r) (rs r)=same rs0 rs ⟨r,i,c,n⟩:=by simp only [smR,same];cases rs0 r <;> cases rs r <;> rfl
 have h2:smR (rs0 r2) (rs r2)=same rs0 rs ⟨r2,i2,c2,n2⟩:=by simp only [smR,same];cases rs0 r2 <;> cases rs r2 <;> rfl
 rw [h1,h2]
 cases h:same rs0 rs ⟨r,i,c,n⟩ <;> cases h':same rs0 rs ⟨r2,i2,c2,n2⟩ <;> simp [QcD,rgT,h,h']
def rgR (r i c n:Nat) (R Ri:Option Qaj) (rs:Rs):Rs:=match R,Ri with
 | some R,some Ri=>rgS.rgC r i c n R Ri (QW R.xs i c) rs
 | _,_=>rs
theorem QzL {rs:Rs} {r i c n:Nat} : Qbx rs ⟨r,i,c,n⟩=rgR r i c n (rs r) (rs n) rs:=by
 simp only [Qbx,rgR]
 cases rs r with
 | none=>rfl
 | some R=>cases rs n <;> rfl
theorem Qvd {r i c n:Nat} {R Ri:Qaj} {rs:Rs} : rgR r i c n (some R) (some Ri) rs=rgS.rgC r i c n R Ri (QW R.xs i c) rs:=(rfl)
section
variable {call:QaM} {n:Nat} {tm:Tm} {rs:Rs}
def Qyn (x:AV) (rs:Rs):Option (AV×Rs):=match x with
 | .nl _=>some (.i .i64 0,rs)
 | .slc r q pv sz off len=>if q=[]∧0<len then some (.cv 0 r off sz 0,rs) else none
 | _=>none
theorem Qk1 {x:X} : evI call n tm rs (.cap x)=Qyn (x.ev tm) rs:=(rfl)
theorem Qw9 {sz:Nat} : Qyn (.nl sz) rs=some (.i .i64 0,rs):=(rfl)
theorem Qy9 {r pv sz off len:Nat} (h:0<len):Qyn (.slc r [] pv sz off len) rs=some (.cv 0 r off sz 0,rs):=by simp [Qyn,h]
def Qtn (fresh by':Nat) (zero:List AV) (k x y:AV) (rs:Rs):Option (AV×Rs):=match y with
 | .i .i64 m=>if 0<m then match x with
  | .nl _=>if m.toNat * by'≤140737488355328 then some (.slc fresh [] 0 zero.length 0 m.toNat,up' rs fresh (some ⟨true,zero.length,0,List.replicate m.toNat zero⟩)) else none
  | .slc r1 q pv sz2 off1 len=>match k with
   | .cv 3 r off sz1 n=>if r=r1∧q=[]∧sz1=zero.length∧sz2=zero.length∧off=off1 then (rs r).bind fun R =>
    if R.own=true∧Q8 (wnd R.xs off len)=false∧n≤len+m.toNat∧off<R.xs.length∧(len+m.toNat) * by'≤140737488355328 then
     some (.slc fresh [] 0 zero.length 0 (len+m.toNat),up' rs fresh (some ⟨true,zero.length,0,wnd R.xs off len++List.replicate m.toNat zero⟩)) else none
    else none
   | _=>none
  | _=>none
  else none
 | _=>none
theorem QgG {by':Nat} {zero:List AV} {k x y:X} : evI call n tm rs (.appZ by' zero k x y)=Qtn n by' zero (k.ev tm) (x.ev tm) (y.ev tm) rs:=(rfl)
theorem QuN {sz:Nat} {h:Int} {k:IntKind} (h0:h=0):Qk4 sz (.nl sz) none (some (.i k h)) rs=some (.nl sz,rs):=by
 subst h0;simp [Qk4,Qeh.bndv]
theorem Qt4 {xs:Els} {off:Nat} : wnd xs off 0=[]:=by simp [wnd]
def fCv (call:QaM) (n:Nat) (rs:Rs) (g:AV) (ms:List Bool) (vs:List AV):Option (AV×Rs):=match g with
 | .fn f caps=>ac1 call n rs f (QcY rs ms (vs++caps))
 | _=>none
theorem Qj7 {g:X} {ms:List Bool} {args:List X} : evI call n tm rs (.callv g ms args)=fCv call n rs (g.ev tm) ms (xsv tm args):=by
 rw [←Qlq]
 simp only [evI,fCv]
 cases g.ev tm <;> rfl
theorem QwD {ms:List Bool} {vs:List AV} {f:Nat} : fCv call n rs (.fn f []) ms vs=ac1 call n rs f (QcY rs ms vs):=by simp only [fCv,List.append_nil]
end
theorem RM:type_of% (And.intro @Qug<|And.intro @Quk<|And.intro @Qui<|And.intro @Quj<|And.intro @QvS<|And.intro @Qj8<|And.intro @Qwp<|And.intro @Qnk<|And.intro @Qwn<|And.intro @Qwo<|And.intro @QyA<|And.intro @QAx<|And.intro @QAz<|And.intro @QAy<|And.intro @Qzs<|And.intro @Qzu<|And.intro @Qzt<|And.intro @QzG<|And.intro @Qzv<|And.intro @Qnn<|And.intro @Qqq<|And.intro @QzE<|And.intro @QzD<|And.intro @Qzz<|And.intro @QzC<|And.intro @QzA<|And.intro @QzB<|And.intro @QAF<|And.intro @Qry<|And.intro @QBH<|And.intro @QqL<|And.intro @QBl<|And.intro @Qm9<|And.intro @Qj5<|And.intro @QzN<|And.intro @Qvc<|And.intro @Qve<|And.intro @Qvb<|And.intro @QuG<|And.intro @Qva<|And.intro @QzM<|And.intro @QzL<|And.intro @Qvd<|And.intro @Qcn<|And.intro @Qk1<|And.intro @Qw9<|And.intro @QgG<|And.intro @QuN<|And.intro @Qt4<|And.intro @Qj7 @QwD):=And.intro @Qug<|And.intro @Quk<|And.intro @Qui<|And.intro @Quj<|And.intro @QvS<|And.intro @Qj8<|And.intro @Qwp<|And.intro @Qnk<|And.intro @Qwn<|And.intro @Qwo<|And.intro @QyA<|And.intro @QAx<|And.intro @QAz<|And.intro @QAy<|And.intro @Qzs<|And.intro @Qzu<|And.intro @Qzt<|And.intro @QzG<|And.intro @Qzv<|And.intro @Qnn<|And.intro @Qqq<|And.intro @QzE<|And.intro @QzD<|And.intro @Qzz<|And.intro @QzC<|And.intro @QzA<|And.intro @QzB<|And.intro @QAF<|And.intro @Qry<|And.intro @QBH<|And.intro @QqL<|And.intro @QBl<|And.intro @Qm9<|And.intro @Qj5<|And.intro @QzN<|And.intro @Qvc<|And.intro @Qve<|And.intro @Qvb<|And.intro @QuG<|And.intro @Qva<|And.intro @QzM<|And.intro @QzL<|And.intro @Qvd<|And.intro @Qcn<|And.intro @Qk1<|And.intro @Qw9<|And.intro @QgG<|And.intro @QuN<|And.intro @Qt4<|And.intro @Qj7 @QwD
end Go.Proofs.YtallpjhkmcgpoaaGreat.V
end
section
namespace Go.Proofs.YtallpjhkmcgpoaaGreat.V
open Go
def Zt (call:QaM) (n:Nat) (d:Option Nat) (t u:Nat) (i:I) (a:Option (AV×Rs)) (tm:Tm) (k:Tm×Rs→Option (Tm×Rs)):Option (Tm×Rs):=match a with
 | some a=>Zs call n d u i (spV (n+32) a.2 (up' tm t a.1 u)) (up' tm t a.1) k
 | none=>none
theorem QqM {call:QaM} {n t u:Nat} {d:Option Nat} {i:I} {os:List Op'} {l:List (Nat×AV)} {rs:Rs} (h:i.isCall=false):QbB call n (oz d none [t,u] i::os) (Qav l,rs)=Zt call n d t u i (spV (n+16) rs (Qav l t)) (Qav l) (QbB call (n+80) os):=by
 rw [←QeR]
 simp only [QbB,oz,Qeo,Qcw,Option.bind_some, ↓reduceIte,List.length_cons,List.length_nil,QbE,h,Nat.zero_add,show (1+1≤4)=True from eq_true (by decide),Bool.false_eq_true]
 cases QbR (n+16) rs (Qav l t) with
 | none=>rfl
 | some a =>
  simp only [Option.bind_some,Option.map_some,Zt]
  rw [←QeR]
  cases QbR (n+16+16) a.2.1 (up' (Qav l) t a.1 u) with
  | none=>rfl
  | some b =>
   simp only [Option.bind_some,Option.map_some,Zs,B0]
   cases evI call n (up' (up' (Qav l) t a.1) u b.1) b.2.1 i <;> rfl
theorem QBj {call:QaM} {n t u:Nat} {d:Option Nat} {i:I} {v:AV} {m:List (Nat×Option Qaj)} {l:List (Nat×AV)} {k:Tm×Rs→Option (Tm×Rs)} : Zt call n d t u i (some (v,rsL m)) (Qav l) k=Zs call n d u i (spV (n+32) (rsL m) (Qav ((t,v)::l) u)) (Qav ((t,v)::l)) k:=(rfl)
def kU (d:Bool) (r:Nat):List Nat:=if d then [r] else []
def kR (d:Bool) (R:Option Qaj):Option Qaj:=if d then none else R
theorem QAn {α:Type} {e:α→List AV} {l:List α} {r:Nat} {w:Els} : Qrz false [] r w (Q8 (l.map e))=some (w,kU (Q8 (l.map e)) r):=by
 cases Q8 (l.map e) <;> rfl
theorem QxV {n sz by' r r0:Nat} {α:Type} {e:α→List AV} {a b:List α} {d:Bool} {m:List (Nat×Option Qaj)} (h:(a.length+b.length) * by'≤140737488355328) (hr:decide (r≠r0)=true) :
 QgK n sz by' (some (b.map e,kU d r)) (Qfm (a.map e) [] (rsL m) (some r0))=some (.slc n [] 0 sz 0 (a++b).length,rsL ((n,some ⟨true,sz,0,(a++b).map e⟩)::(r,kR d (rsL m r))::m)):=by
 have hr':r≠r0:=by simpa using hr
 cases d
 ·have e1:rsL ((r,kR false (rsL m r))::m)=rsL m:=by
   funext k
   simp only [kR,Bool.false_eq_true, ↓reduceIte,QfK]
   split
   ·rename_i h;rw [h]
   ·rfl
  simp only [kU,Bool.false_eq_true, ↓reduceIte]
  rw [show ∀ x,rsL ((n,x)::(r,kR false (rsL m r))::m)=up' (rsL ((r,kR false (rsL m r))::m)) n x from fun x=>Qc1.symm,e1]
  simp [QgK,Qfm,h,QbA]
 ·simp [QgK,Qfm,h,QbA,Qc1,Qb6,hr',kU,kR]
theorem QrF {α:Type} {e:α→List AV} {x:α} : List.drop 1 (List.map e [x])=[]:=(rfl)
theorem QwF {call:QaM} {n:Nat} {rs:Rs} {ms:List Bool} {f:Nat} {a c:AV} : fCv call n rs (.fn f [c]) ms [a]=ac1 call n rs f (QcY rs ms [a,c]):=(rfl)
theorem QwE {call:QaM} {n:Nat} {rs:Rs} {ms:List Bool} {f:Nat} {a b c:AV} : fCv call n rs (.fn f [c]) ms [a,b]=ac1 call n rs f (QcY rs ms [a,b,c]):=(rfl)
theorem Qnc {call:QaM} {n:Nat} {tm:Tm} {rs:Rs} {f:Nat} {x:X} : evI call n tm rs (.mkfn f [x])=if QfV (x.ev tm)=true then some (.fn f [x.ev tm],rs) else none:=by
 simp only [evI,List.map_cons,List.map_nil,List.all_cons,List.all_nil,Bool.and_true]
theorem Qv9 {r pv i c:Nat} {q:QaO} : QfV (.ptr r q pv i c)=true:=(rfl)
theorem Qv8 {r pv sz off len:Nat} {q:QaO} : QfV (.slc r q pv sz off len)=true:=(rfl)
theorem Qwa {k:IntKind} {n:Int} : QfV (.i k n)=true:=(rfl)
theorem Qfr {n sz:Nat} {bo:Bool} {xs:Els} : Qba [.deep true bo sz xs] n=([.ptr n [] 0 0 0],[⟨!bo,sz,0,xs⟩]):=rfl
theorem Qfq {n sz:Nat} {bo:Bool} {xs:Els} : Qba [.deep false bo sz xs] n=([.slc n [] 0 sz 0 xs.length],[⟨!bo,sz,0,xs⟩]):=rfl
theorem LL:type_of% (And.intro @List.length_set.{0} <| And.intro @List.length_append.{0} @List.length_replicate.{0}):=And.intro @List.length_set.{0} <| And.intro @List.length_append.{0} @List.length_replicate.{0}
section
variable {α:Type} {c c1 c2 c3 c4:Prop} [Decidable c] [Decidable c1] [Decidable c2] [Decidable c3] [Decidable c4] {a b:Option α} {r:α}
theorem iq (h:(if c then a else none)=some r):c=True∧a=some r:=by
 by_cases hc:c
 ·rw [if_pos hc] at h;exact ⟨eq_true hc,h⟩
 ·rw [if_neg hc] at h;cases h
theorem i1 (h:(if c then a else none)=some r):c∧a=some r:=⟨of_eq_true (iq h).1,(iq h).2⟩
theorem i2 (h:(if c1 then (if c2 then a else none) else none)=some r):c1∧c2∧a=some r:=let h:=i1 h;⟨h.1,i1 h.2⟩
theorem i3 (h:(if c1 then (if c2 then (if c3 then a else none) else none) else none)=some r):c1∧c2∧c3∧a=some r:=let h:=i1 h;⟨h.1,i2 h.2⟩
theorem i4 (h:(if c1 then (if c2 then (if c3 then (if c4 then a else none) else none) else none) else none)=some r):c1∧c2∧c3∧c4∧a=some r:=let h:=i1 h;⟨h.1,i3 h.2⟩
theorem ioq (h:(if c then a else b)=some r):c=True∧a=some r∨¬c∧b=some r:=by
 by_cases hc:c
 ·rw [if_pos hc] at h;exact .inl ⟨eq_true hc,h⟩
 ·rw [if_neg hc] at h;exact .inr ⟨hc,h⟩
end
theorem RN2:type_of% (And.intro @QqM<|And.intro @QBj<|And.intro @QAn<|And.intro @QxV<|And.intro @QrF<|And.intro @QwF<|And.intro @QwE<|And.intro @Qnc<|And.intro @Qv9<|And.intro @Qv8 @Qwa):=And.intro @QqM<|And.intro @QBj<|And.intro @QAn<|And.intro @QxV<|And.intro @QrF<|And.intro @QwF<|And.intro @QwE<|And.intro @Qnc<|And.intro @Qv9<|And.intro @Qv8 @Qwa
end Go.Proofs.YtallpjhkmcgpoaaGreat.V
end
section
namespace Go.Proofs.YtallpjhkmcgpoaaGreat.P
open Go Go.RowKit Go.Proofs.YtallpjhkmcgpoaaGreat.V
theorem QaN {α:Type} {c:Bool} {a b:Option α} {r:α} (h:(if c=true then a else b)=some r):c=true∧a=some r∨c=false∧b=some r:=by cases c <;> simp_all
theorem Qrc {α:Type} {c:Prop} [Decidable c] {a:Option α} {r:α} (h:(if c then none else a)=some r):¬c∧a=some r:=by
 by_cases hc:c
 ·rw [if_pos hc] at h;cases h
 ·rw [if_neg hc] at h;exact ⟨hc,h⟩
def rd (xs:List Int) (i:Int):Int:=xs.getD i.toNat 0
def rdB (xs:List Bool) (i:Int):Bool:=xs.getD i.toNat false
def rdS (xs:List ByteArray) (i:Int):ByteArray:=xs.getD i.toNat ⟨#[]⟩
def rdL {α:Type} (xs:List (List α)) (i:Int):List α:=xs.getD i.toNat []
theorem Qat {E:Env} {L:C} {m:Nat} {live:List Nat} {c:C} {st:St} {Q:Pst} (h:L = .loop m live c):W E L st Q=W E c (canon m live st) (Ql E L Q):=by subst h;exact Qx7
theorem gI  {l:List Int} {j:Int} (h1:0≤j) (h2:j<(l.length:Int)):(l.map eI)[0+j.toNat]? = some (eI (rd l j)):=Qb1 h1 h2
theorem QAE {l:List Int} (h2:(0:Int)<(l.length:Int)):(l.map eI)[0]? = some (eI (rd l 0)):=by have:=Qb1 (e:=eI) (z:=0) (j:=0) (l:=l) (by omega) h2;exact this
theorem QAD {l:List Int} (h2:(1:Int)<(l.length:Int)):(l.map eI)[1]? = some (eI (rd l 1)):=by have:=Qb1 (e:=eI) (z:=0) (j:=1) (l:=l) (by omega) h2;exact this
theorem QAC {l:List Int} (h2:(2:Int)<(l.length:Int)):(l.map eI)[2]? = some (eI (rd l 2)):=by have:=Qb1 (e:=eI) (z:=0) (j:=2) (l:=l) (by omega) h2;exact this
theorem g8  {l:List Int} {j:Int} (h1:0≤j) (h2:j<(l.length:Int)):(l.map e8)[0+j.toNat]? = some (e8 (rd l j)):=Qb1 h1 h2
theorem QAL {l:List Int} (h2:(0:Int)<(l.length:Int)):(l.map e8)[0]? = some (e8 (rd l 0)):=by have:=Qb1 (e:=e8) (z:=0) (j:=0) (l:=l) (by omega) h2;exact this
theorem QAK {l:List Int} (h2:(1:Int)<(l.length:Int)):(l.map e8)[1]? = some (e8 (rd l 1)):=by have:=Qb1 (e:=e8) (z:=0) (j:=1) (l:=l) (by omega) h2;exact this
theorem QAJ {l:List Int} (h2:(2:Int)<(l.length:Int)):(l.map e8)[2]? = some (e8 (rd l 2)):=by have:=Qb1 (e:=e8) (z:=0) (j:=2) (l:=l) (by omega) h2;exact this
theorem gB  {l:List Bool} {j:Int} (h1:0≤j) (h2:j<(l.length:Int)):(l.map eB)[0+j.toNat]? = some (eB (rdB l j)):=Qb1 h1 h2
theorem QAI {l:List Bool} (h2:(0:Int)<(l.length:Int)):(l.map eB)[0]? = some (eB (rdB l 0)):=by have:=Qb1 (e:=eB) (z:=false) (j:=0) (l:=l) (by omega) h2;exact this
theorem QAH {l:List Bool} (h2:(1:Int)<(l.length:Int)):(l.map eB)[1]? = some (eB (rdB l 1)):=by have:=Qb1 (e:=eB) (z:=false) (j:=1) (l:=l) (by omega) h2;exact this
theorem QAG {l:List Bool} (h2:(2:Int)<(l.length:Int)):(l.map eB)[2]? = some (eB (rdB l 2)):=by have:=Qb1 (e:=eB) (z:=false) (j:=2) (l:=l) (by omega) h2;exact this
theorem gS  {l:List ByteArray} {j:Int} (h1:0≤j) (h2:j<(l.length:Int)):(l.map eS)[0+j.toNat]? = some (eS (rdS l j)):=Qb1 h1 h2
theorem QAw {l:List ByteArray} (h2:(0:Int)<(l.length:Int)):(l.map eS)[0]? = some (eS (rdS l 0)):=by have:=Qb1 (e:=eS) (z:=⟨#[]⟩) (j:=0) (l:=l) (by omega) h2;exact this
theorem QAv {l:List ByteArray} (h2:(1:Int)<(l.length:Int)):(l.map eS)[1]? = some (eS (rdS l 1)):=by have:=Qb1 (e:=eS) (z:=⟨#[]⟩) (j:=1) (l:=l) (by omega) h2;exact this
theorem QAu {l:List ByteArray} (h2:(2:Int)<(l.length:Int)):(l.map eS)[2]? = some (eS (rdS l 2)):=by have:=Qb1 (e:=eS) (z:=⟨#[]⟩) (j:=2) (l:=l) (by omega) h2;exact this
theorem gL  {α:Type} {s:Nat} {b:Bool} {e:α→List AV} {l:List (List α)} {j:Int} (h1:0≤j) (h2:j<(l.length:Int)):(l.map (eL s b e))[0+j.toNat]? = some ((eL s b e) (rdL l j)):=Qb1 h1 h2
theorem QyQ {α:Type} {s:Nat} {b:Bool} {e:α→List AV} {l:List (List α)} (h2:(0:Int)<(l.length:Int)):(l.map (eL s b e))[0]? = some ((eL s b e) (rdL l 0)):=by have:=Qb1 (e:=(eL s b e)) (z:=[]) (j:=0) (l:=l) (by omega) h2;exact this
theorem QAB {α:Type} {s:Nat} {b:Bool} {e:α→List AV} {l:List (List α)} (h2:(1:Int)<(l.length:Int)):(l.map (eL s b e))[1]? = some ((eL s b e) (rdL l 1)):=by have:=Qb1 (e:=(eL s b e)) (z:=[]) (j:=1) (l:=l) (by omega) h2;exact this
theorem QAA {α:Type} {s:Nat} {b:Bool} {e:α→List AV} {l:List (List α)} (h2:(2:Int)<(l.length:Int)):(l.map (eL s b e))[2]? = some ((eL s b e) (rdL l 2)):=by have:=Qb1 (e:=(eL s b e)) (z:=[]) (j:=2) (l:=l) (by omega) h2;exact this
theorem QA9 {x:Int} : (eI x)[0]? = some (.i .i64 x):=(rfl)
theorem lI {x:Int} : (eI x).length=1:=(rfl)
theorem QBb {x:Int} : (e8 x)[0]? = some (.i .u8 x):=(rfl)
theorem l8 {x:Int} : (e8 x).length=1:=(rfl)
theorem QBa {x:Bool} : (eB x)[0]? = some (.b x):=(rfl)
theorem lB {x:Bool} : (eB x).length=1:=(rfl)
theorem QA7 {x:ByteArray} : (eS x)[0]? = some (.s x):=(rfl)
theorem lS {x:ByteArray} : (eS x).length=1:=(rfl)
theorem QA8 {α:Type} {s:Nat} {b:Bool} {e:α→List AV} {x:List α} : ((eL s b e) x)[0]? = some (.deep false b s (x.map e)):=(rfl)
theorem lL {α:Type} {s:Nat} {b:Bool} {e:α→List AV} {x:List α} : ((eL s b e) x).length=1:=(rfl)
theorem sI {l:List Int} {j:Int} {v:Int} (h1:0≤j) (h2:j<(l.length:Int)):QaY (l.map eI) (0+j.toNat) 0 [.i .i64 v]=(l.set j.toNat v).map eI:=Qc0 h1 h2 (QbG (z:=0) h1 h2) rfl
theorem Qzy {l:List Int} {v:Int} (h2:(0:Int)<(l.length:Int)):QaY (l.map eI) 0 0 [.i .i64 v]=(l.set (0:Int).toNat v).map eI:=by have:=Qc0 (e:=eI) (c:=0) (vs:=[.i .i64 v]) (Int.le_refl 0) h2 (QbG (z:=0) (Int.le_refl 0) h2) (y:=v) rfl;exact this
theorem s8 {l:List Int} {j:Int} {v:Int} (h1:0≤j) (h2:j<(l.length:Int)):QaY (l.map e8) (0+j.toNat) 0 [.i .u8 v]=(l.set j.toNat v).map e8:=Qc0 h1 h2 (QbG (z:=0) h1 h2) rfl
theorem QzH {l:List Int} {v:Int} (h2:(0:Int)<(l.length:Int)):QaY (l.map e8) 0 0 [.i .u8 v]=(l.set (0:Int).toNat v).map e8:=by have:=Qc0 (e:=e8) (c:=0) (vs:=[.i .u8 v]) (Int.le_refl 0) h2 (QbG (z:=0) (Int.le_refl 0) h2) (y:=v) rfl;exact this
theorem sB {l:List Bool} {j:Int} {v:Bool} (h1:0≤j) (h2:j<(l.length:Int)):QaY (l.map eB) (0+j.toNat) 0 [.b v]=(l.set j.toNat v).map eB:=Qc0 h1 h2 (QbG (z:=false) h1 h2) rfl
theorem QzF {l:List Bool} {v:Bool} (h2:(0:Int)<(l.length:Int)):QaY (l.map eB) 0 0 [.b v]=(l.set (0:Int).toNat v).map eB:=by have:=Qc0 (e:=eB) (c:=0) (vs:=[.b v]) (Int.le_refl 0) h2 (QbG (z:=false) (Int.le_refl 0) h2) (y:=v) rfl;exact this
theorem sS {l:List ByteArray} {j:Int} {v:ByteArray} (h1:0≤j) (h2:j<(l.length:Int)):QaY (l.map eS) (0+j.toNat) 0 [.s v]=(l.set j.toNat v).map eS:=Qc0 h1 h2 (QbG (z:=⟨#[]⟩) h1 h2) rfl
theorem Qzw {l:List ByteArray} {v:ByteArray} (h2:(0:Int)<(l.length:Int)):QaY (l.map eS) 0 0 [.s v]=(l.set (0:Int).toNat v).map eS:=by have:=Qc0 (e:=eS) (c:=0) (vs:=[.s v]) (Int.le_refl 0) h2 (QbG (z:=⟨#[]⟩) (Int.le_refl 0) h2) (y:=v) rfl;exact this
theorem pL {α:Type} {s:Nat} {b:Bool} {e:α→List AV} {l:List (List α)} {j:Int} (h1:0≤j) (h2:j<(l.length:Int)):QW (l.map (eL s b e)) (0+j.toNat) 0=some (.deep false b s ((rdL l j).map e)):=Qku (gL h1 h2)
theorem QzO {α:Type} {s:Nat} {b:Bool} {e:α→List AV} {l:List (List α)} (h2:(0:Int)<(l.length:Int)):QW (l.map (eL s b e)) 0 0=some (.deep false b s ((rdL l 0).map e)):=Qku (QyQ h2)
theorem sL {α:Type} {s:Nat} {b:Bool} {e:α→List AV} {l:List (List α)} {v:List α} {j:Int} (h1:0≤j) (h2:j<(l.length:Int)):QaY (l.map (eL s b e)) (0+j.toNat) 0 [.deep false b s (v.map e)]=(l.set j.toNat v).map (eL s b e):=Qc0 h1 h2 (QbG (z:=[]) h1 h2) rfl
theorem QmO {α:Type} {s:Nat} {b:Bool} {e:α→List AV} {x:List α} : Qc7 [[.deep false b s (x.map e)]]=List.map (eL s b e) [x]:=(rfl)
theorem QmN {α:Type} {s:Nat} {b:Bool} {e:α→List AV} {x y:List α} : Qc7 [[.deep false b s (x.map e)],[.deep false b s (y.map e)]]=List.map (eL s b e) [x,y]:=(rfl)
theorem Qy3 {α:Type} {s:Nat} {b:Bool} {e:α→List AV} {x:List α} {l:List (List α)} : Q8 ((x::l).map (eL s b e))=true:=(rfl)
theorem tbL {α:Type} {s:Nat} {b:Bool} {e:α→List AV} {l:List (List α)} : (l.map (eL s b e)).map (·.map QeP)=l.map (eL s true e):=by rw [List.map_map];rfl
theorem QAr {α:Type} {s:Nat} {b:Bool} {e:α→List AV} {q:QaO} {r:Nat} {l:List (List α)} : Qrz true q r (l.map (eL s b e)) (Q8 (l.map (eL s b e)))=some (l.map (eL s true e),[]):=by
 cases l with
 | nil=>rfl
 | cons x l=>rw [Qy3, ←tbL (b:=b)];rfl
theorem QBc {α:Type} {k s:Nat} {e:α→List AV} {l:List (List α)} (h:∀ x:List α,QcQ k (x.map e)=false):QcQ (k+1) (l.map (eL s false e))=false:=QdC (fun x=>by simp only [eL,Qkz,Qys,h,Bool.or_false,Bool.false_or]) l
theorem Qzx {α:Type} {s:Nat} {b:Bool} {e:α→List AV} {l:List (List α)} {v:List α} (h2:(0:Int)<(l.length:Int)):QaY (l.map (eL s b e)) 0 0 [.deep false b s (v.map e)]=(l.set (0:Int).toNat v).map (eL s b e):=by have:=Qc0 (e:=eL s b e) (c:=0) (vs:=[.deep false b s (v.map e)]) (Int.le_refl 0) h2 (QbG (z:=[]) (Int.le_refl 0) h2) (y:=v) rfl;exact this
structure S38 where
 f0:Int
 f1:Int
def z38:S38:=⟨(0:Int),(0:Int)⟩
def e38 (x:S38):List AV:=[.i .i64 x.f0, .i .i64 x.f1]
def Qac (xs:List S38) (i:Int):S38:=xs.getD i.toNat z38
theorem g38  {l:List S38} {j:Int} (h1:0≤j) (h2:j<(l.length:Int)):(l.map e38)[0+j.toNat]? = some (e38 (Qac l j)):=Qb1 h1 h2
theorem QwA {l:List S38} (h2:(0:Int)<(l.length:Int)):(l.map e38)[0]? = some (e38 (Qac l 0)):=by have:=Qb1 (e:=e38) (z:=z38) (j:=0) (l:=l) (by omega) h2;exact this
theorem Qwz {l:List S38} (h2:(1:Int)<(l.length:Int)):(l.map e38)[1]? = some (e38 (Qac l 1)):=by have:=Qb1 (e:=e38) (z:=z38) (j:=1) (l:=l) (by omega) h2;exact this
theorem Qwy {l:List S38} (h2:(2:Int)<(l.length:Int)):(l.map e38)[2]? = some (e38 (Qac l 2)):=by have:=Qb1 (e:=e38) (z:=z38) (j:=2) (l:=l) (by omega) h2;exact this
theorem Qxi {x:S38} : (e38 x)[0]? = some (.i .i64 x.f0):=(rfl)
theorem Qxh {x:S38} : (e38 x)[1]? = some (.i .i64 x.f1):=(rfl)
theorem l38 {x:S38} : (e38 x).length=2:=(rfl)
theorem w38 {x:S38} {r i pv:Nat} {q:QaO} {rs:Rs} : QfT (some 2) r q pv i 0 (some (e38 x)) rs=some (.agg [.i .i64 x.f0, .i .i64 x.f1],rs):=(rfl)
theorem Qu6 {l:List S38} {j:Int} {v0:Int} (h1:0≤j) (h2:j<(l.length:Int)):QaY (l.map e38) (0+j.toNat) 0 [.i .i64 v0]=(l.set j.toNat (⟨v0,(Qac l j).f1⟩:S38)).map e38:=Qc0 h1 h2 (QbG (z:=z38) h1 h2) rfl
theorem Qu5 {l:List S38} {j:Int} {v1:Int} (h1:0≤j) (h2:j<(l.length:Int)):QaY (l.map e38) (0+j.toNat) 1 [.i .i64 v1]=(l.set j.toNat (⟨(Qac l j).f0,v1⟩:S38)).map e38:=Qc0 h1 h2 (QbG (z:=z38) h1 h2) rfl
theorem s38 {l:List S38} {j:Int} {v0:Int} {v1:Int} (h1:0≤j) (h2:j<(l.length:Int)):QaY (l.map e38) (0+j.toNat) 0 [.i .i64 v0, .i .i64 v1]=(l.set j.toNat (⟨v0,v1⟩:S38)).map e38:=Qc0 h1 h2 (QbG (z:=z38) h1 h2) rfl
theorem Qcf {v0_0:Int} {v0_1:Int} : Qc7 [[.i .i64 v0_0, .i .i64 v0_1]]=List.map e38 [(⟨v0_0,v0_1⟩:S38)]:=(rfl)
theorem QtQ {k:Nat} {l:List S38} : QcQ (k+1) (l.map e38)=false:=QdC (fun _=>rfl) l
theorem QnV {l:List S38} : Q8 (l.map e38)=false:=Qej (fun _=>rfl) l
structure S40 where
 f0:Int
 f1:Int
def z40:S40:=⟨(0:Int),(0:Int)⟩
def e40 (x:S40):List AV:=[.i .i64 x.f0, .i .i64 x.f1]
def Qah (xs:List S40) (i:Int):S40:=xs.getD i.toNat z40
theorem g40  {l:List S40} {j:Int} (h1:0≤j) (h2:j<(l.length:Int)):(l.map e40)[0+j.toNat]? = some (e40 (Qah l j)):=Qb1 h1 h2
theorem Qwx {l:List S40} (h2:(0:Int)<(l.length:Int)):(l.map e40)[0]? = some (e40 (Qah l 0)):=by have:=Qb1 (e:=e40) (z:=z40) (j:=0) (l:=l) (by omega) h2;exact this
theorem Qww {l:List S40} (h2:(1:Int)<(l.length:Int)):(l.map e40)[1]? = some (e40 (Qah l 1)):=by have:=Qb1 (e:=e40) (z:=z40) (j:=1) (l:=l) (by omega) h2;exact this
theorem Qwv {l:List S40} (h2:(2:Int)<(l.length:Int)):(l.map e40)[2]? = some (e40 (Qah l 2)):=by have:=Qb1 (e:=e40) (z:=z40) (j:=2) (l:=l) (by omega) h2;exact this
theorem Qxg {x:S40} : (e40 x)[0]? = some (.i .i64 x.f0):=(rfl)
theorem Qxf {x:S40} : (e40 x)[1]? = some (.i .i64 x.f1):=(rfl)
theorem l40 {x:S40} : (e40 x).length=2:=(rfl)
theorem w40 {x:S40} {r i pv:Nat} {q:QaO} {rs:Rs} : QfT (some 2) r q pv i 0 (some (e40 x)) rs=some (.agg [.i .i64 x.f0, .i .i64 x.f1],rs):=(rfl)
theorem Qu4 {l:List S40} {j:Int} {v0:Int} (h1:0≤j) (h2:j<(l.length:Int)):QaY (l.map e40) (0+j.toNat) 0 [.i .i64 v0]=(l.set j.toNat (⟨v0,(Qah l j).f1⟩:S40)).map e40:=Qc0 h1 h2 (QbG (z:=z40) h1 h2) rfl
theorem Qu3 {l:List S40} {j:Int} {v1:Int} (h1:0≤j) (h2:j<(l.length:Int)):QaY (l.map e40) (0+j.toNat) 1 [.i .i64 v1]=(l.set j.toNat (⟨(Qah l j).f0,v1⟩:S40)).map e40:=Qc0 h1 h2 (QbG (z:=z40) h1 h2) rfl
theorem s40 {l:List S40} {j:Int} {v0:Int} {v1:Int} (h1:0≤j) (h2:j<(l.length:Int)):QaY (l.map e40) (0+j.toNat) 0 [.i .i64 v0, .i .i64 v1]=(l.set j.toNat (⟨v0,v1⟩:S40)).map e40:=Qc0 h1 h2 (QbG (z:=z40) h1 h2) rfl
theorem Qdl {v0_0:Int} {v0_1:Int} : Qc7 [[.i .i64 v0_0, .i .i64 v0_1]]=List.map e40 [(⟨v0_0,v0_1⟩:S40)]:=(rfl)
theorem QtP {k:Nat} {l:List S40} : QcQ (k+1) (l.map e40)=false:=QdC (fun _=>rfl) l
theorem Qw1 {l:List S40} : Q8 (l.map e40)=false:=Qej (fun _=>rfl) l
structure S67 where
 f0:Int
 f1:List Int
 f2:Int
 f3:Int
 f4:Int
def z67:S67:=⟨(0:Int),([]:List Int),(0:Int),(0:Int),(0:Int)⟩
def e67 (b:Bool) (x:S67):List AV:=[.i .i64 x.f0, .deep false b 1 (x.f1.map eI), .i .i64 x.f2, .i .i64 x.f3, .i .i64 x.f4]
def QaU (xs:List S67) (i:Int):S67:=xs.getD i.toNat z67
theorem g67  {b:Bool} {l:List S67} {j:Int} (h1:0≤j) (h2:j<(l.length:Int)):(l.map (e67 b))[0+j.toNat]? = some ((e67 b) (QaU l j)):=Qb1 h1 h2
theorem Qtg {b:Bool} {l:List S67} (h2:(0:Int)<(l.length:Int)):(l.map (e67 b))[0]? = some ((e67 b) (QaU l 0)):=by have:=Qb1 (e:=(e67 b)) (z:=z67) (j:=0) (l:=l) (by omega) h2;exact this
theorem Qwu {b:Bool} {l:List S67} (h2:(1:Int)<(l.length:Int)):(l.map (e67 b))[1]? = some ((e67 b) (QaU l 1)):=by have:=Qb1 (e:=(e67 b)) (z:=z67) (j:=1) (l:=l) (by omega) h2;exact this
theorem Qwt {b:Bool} {l:List S67} (h2:(2:Int)<(l.length:Int)):(l.map (e67 b))[2]? = some ((e67 b) (QaU l 2)):=by have:=Qb1 (e:=(e67 b)) (z:=z67) (j:=2) (l:=l) (by omega) h2;exact this
theorem Qxe {b:Bool} {x:S67} : ((e67 b) x)[0]? = some (.i .i64 x.f0):=(rfl)
theorem Qxd {b:Bool} {x:S67} : ((e67 b) x)[1]? = some (.deep false b 1 (x.f1.map eI)):=(rfl)
theorem Qxc {b:Bool} {x:S67} : ((e67 b) x)[2]? = some (.i .i64 x.f2):=(rfl)
theorem Qxb {b:Bool} {x:S67} : ((e67 b) x)[3]? = some (.i .i64 x.f3):=(rfl)
theorem Qxa {b:Bool} {x:S67} : ((e67 b) x)[4]? = some (.i .i64 x.f4):=(rfl)
theorem l67 {b:Bool} {x:S67} : ((e67 b) x).length=5:=(rfl)
theorem w67 {x:S67} {b:Bool} {r i pv:Nat} {q:QaO} {rs:Rs} : QfT (some 5) r q pv i 0 (some ((e67 b) x)) rs=some (.agg [.i .i64 x.f0, .slc r (q++[(i,1)]) pv 1 0 (x.f1.map eI).length, .i .i64 x.f2, .i .i64 x.f3, .i .i64 x.f4],rs):=(rfl)
theorem Qu2 {l:List S67} {j:Int} {v0:Int} {b:Bool} (h1:0≤j) (h2:j<(l.length:Int)):QaY (l.map (e67 b)) (0+j.toNat) 0 [.i .i64 v0]=(l.set j.toNat (⟨v0,(QaU l j).f1,(QaU l j).f2,(QaU l j).f3,(QaU l j).f4⟩:S67)).map (e67 b):=Qc0 h1 h2 (QbG (z:=z67) h1 h2) rfl
theorem Qu1 {l:List S67} {j:Int} {v1:List Int} {b:Bool} (h1:0≤j) (h2:j<(l.length:Int)):QaY (l.map (e67 b)) (0+j.toNat) 1 [.deep false b 1 (v1.map eI)]=(l.set j.toNat (⟨(QaU l j).f0,v1,(QaU l j).f2,(QaU l j).f3,(QaU l j).f4⟩:S67)).map (e67 b):=Qc0 h1 h2 (QbG (z:=z67) h1 h2) rfl
theorem Qu0 {l:List S67} {j:Int} {v2:Int} {b:Bool} (h1:0≤j) (h2:j<(l.length:Int)):QaY (l.map (e67 b)) (0+j.toNat) 2 [.i .i64 v2]=(l.set j.toNat (⟨(QaU l j).f0,(QaU l j).f1,v2,(QaU l j).f3,(QaU l j).f4⟩:S67)).map (e67 b):=Qc0 h1 h2 (QbG (z:=z67) h1 h2) rfl
theorem QuZ {l:List S67} {j:Int} {v3:Int} {b:Bool} (h1:0≤j) (h2:j<(l.length:Int)):QaY (l.map (e67 b)) (0+j.toNat) 3 [.i .i64 v3]=(l.set j.toNat (⟨(QaU l j).f0,(QaU l j).f1,(QaU l j).f2,v3,(QaU l j).f4⟩:S67)).map (e67 b):=Qc0 h1 h2 (QbG (z:=z67) h1 h2) rfl
theorem QuY {l:List S67} {j:Int} {v4:Int} {b:Bool} (h1:0≤j) (h2:j<(l.length:Int)):QaY (l.map (e67 b)) (0+j.toNat) 4 [.i .i64 v4]=(l.set j.toNat (⟨(QaU l j).f0,(QaU l j).f1,(QaU l j).f2,(QaU l j).f3,v4⟩:S67)).map (e67 b):=Qc0 h1 h2 (QbG (z:=z67) h1 h2) rfl
theorem s67 {l:List S67} {j:Int} {v0:Int} {v1:List Int} {v2:Int} {v3:Int} {v4:Int} {b:Bool} (h1:0≤j) (h2:j<(l.length:Int)):QaY (l.map (e67 b)) (0+j.toNat) 0 [.i .i64 v0, .deep false b 1 (v1.map eI), .i .i64 v2, .i .i64 v3, .i .i64 v4]=(l.set j.toNat (⟨v0,v1,v2,v3,v4⟩:S67)).map (e67 b):=Qc0 h1 h2 (QbG (z:=z67) h1 h2) rfl
theorem Qvv {l:List S67} {j:Int} {b:Bool} (h1:0≤j) (h2:j<(l.length:Int)):QW (l.map (e67 b)) (0+j.toNat) 1=some (.deep false b 1 ((QaU l j).f1.map eI)):=Qku (g67 h1 h2)
theorem Qmf {l:List S67} {b:Bool} (h2:(0:Int)<(l.length:Int)):QW (l.map (e67 b)) 0 1=some (.deep false b 1 ((QaU l 0).f1.map eI)):=Qku (Qtg h2)
theorem QfS {v0_0:Int} {v0_1:List Int} {v0_2:Int} {v0_3:Int} {v0_4:Int} {b:Bool} : Qc7 [[.i .i64 v0_0, .deep false b 1 (v0_1.map eI), .i .i64 v0_2, .i .i64 v0_3, .i .i64 v0_4]]=List.map (e67 b) [(⟨v0_0,v0_1,v0_2,v0_3,v0_4⟩:S67)]:=(rfl)
theorem QtD {x:S67} {l:List S67} {b:Bool} : Q8 ((x::l).map (e67 b))=true:=(rfl)
theorem Qyv {l:List S67} {b:Bool} : (l.map (e67 b)).map (·.map QeP)=l.map (e67 true):=by rw [List.map_map];rfl
theorem Qwq {q:QaO} {r:Nat} {l:List S67} : Qrz true q r (l.map (e67 false)) (Q8 (l.map (e67 false)))=some (l.map (e67 true),[]):=by
 cases l with
 | nil=>rfl
 | cons x l=>rw [QtD, ←Qyv];rfl
theorem Qxq {k:Nat} {l:List S67} : QcQ (k+2) (l.map (e67 false))=false:=QdC (fun x=>by simp only [e67,Qkz,Qzc,Qzb,Qza,Qys,QtM,QtO,QtN,QtL,QtQ,QtP,Bool.or_false,Bool.false_or]) l
theorem TN0:type_of% (And.intro @gI<|And.intro @QAE<|And.intro @QAD<|And.intro @QAC<|And.intro @g8<|And.intro @QAL<|And.intro @QAK<|And.intro @QAJ<|And.intro @gB<|And.intro @QAI<|And.intro @QAH<|And.intro @QAG<|And.intro @gS<|And.intro @QAw<|And.intro @QAv<|And.intro @QAu<|And.intro @gL<|And.intro @QyQ<|And.intro @QAB<|And.intro @QAA<|And.intro @QA9<|And.intro @lI<|And.intro @QBb<|And.intro @l8<|And.intro @QBa<|And.intro @lB<|And.intro @QA7<|And.intro @lS<|And.intro @QA8<|And.intro @lL<|And.intro @sI<|And.intro @Qzy<|And.intro @s8<|And.intro @QzH<|And.intro @sB<|And.intro @QzF<|And.intro @sS<|And.intro @Qzw<|And.intro @pL<|And.intro @QzO<|And.intro @sL<|And.intro @QmO<|And.intro @QmN<|And.intro @Qy3<|And.intro @tbL<|And.intro @QAr<|And.intro @List.map_nil.{0,0} <| And.intro @implies_true.{1} <| And.intro @QBc<|And.intro @Qzx<|And.intro @g38<|And.intro @QwA<|And.intro @Qwz<|And.intro @Qwy<|And.intro @Qxi<|And.intro @Qxh<|And.intro @l38<|And.intro @w38<|And.intro @Qu6<|And.intro @Qu5<|And.intro @s38<|And.intro @QtQ<|And.intro @QnV<|And.intro @g40<|And.intro @Qwx<|And.intro @Qww<|And.intro @Qwv<|And.intro @Qxg<|And.intro @Qxf<|And.intro @l40<|And.intro @w40<|And.intro @Qu4<|And.intro @Qu3<|And.intro @s40<|And.intro @QtP<|And.intro @Qw1<|And.intro @g67<|And.intro @Qtg<|And.intro @Qwu<|And.intro @Qwt<|And.intro @Qxe<|And.intro @Qxd<|And.intro @Qxc<|And.intro @Qxb<|And.intro @Qxa<|And.intro @l67<|And.intro @w67<|And.intro @Qu2<|And.intro @Qu1<|And.intro @Qu0<|And.intro @QuZ<|And.intro @QuY<|And.intro @s67<|And.intro @Qvv<|And.intro @Qmf<|And.intro @QtD<|And.intro @Qyv<|And.intro @Qwq<|@Qxq):=And.intro @gI<|And.intro @QAE<|And.intro @QAD<|And.intro @QAC<|And.intro @g8<|And.intro @QAL<|And.intro @QAK<|And.intro @QAJ<|And.intro @gB<|And.intro @QAI<|And.intro @QAH<|And.intro @QAG<|And.intro @gS<|And.intro @QAw<|And.intro @QAv<|And.intro @QAu<|And.intro @gL<|And.intro @QyQ<|And.intro @QAB<|And.intro @QAA<|And.intro @QA9<|And.intro @lI<|And.intro @QBb<|And.intro @l8<|And.intro @QBa<|And.intro @lB<|And.intro @QA7<|And.intro @lS<|And.intro @QA8<|And.intro @lL<|And.intro @sI<|And.intro @Qzy<|And.intro @s8<|And.intro @QzH<|And.intro @sB<|And.intro @QzF<|And.intro @sS<|And.intro @Qzw<|And.intro @pL<|And.intro @QzO<|And.intro @sL<|And.intro @QmO<|And.intro @QmN<|And.intro @Qy3<|And.intro @tbL<|And.intro @QAr<|And.intro @List.map_nil.{0,0} <| And.intro @implies_true.{1} <| And.intro @QBc<|And.intro @Qzx<|And.intro @g38<|And.intro @QwA<|And.intro @Qwz<|And.intro @Qwy<|And.intro @Qxi<|And.intro @Qxh<|And.intro @l38<|And.intro @w38<|And.intro @Qu6<|And.intro @Qu5<|And.intro @s38<|And.intro @QtQ<|And.intro @QnV<|And.intro @g40<|And.intro @Qwx<|And.intro @Qww<|And.intro @Qwv<|And.intro @Qxg<|And.intro @Qxf<|And.intro @l40<|And.intro @w40<|And.intro @Qu4<|And.intro @Qu3<|And.intro @s40<|And.intro @QtP<|And.intro @Qw1<|And.intro @g67<|And.intro @Qtg<|And.intro @Qwu<|And.intro @Qwt<|And.intro @Qxe<|And.intro @Qxd<|And.intro @Qxc<|And.intro @Qxb<|And.intro @Qxa<|And.intro @l67<|And.intro @w67<|And.intro @Qu2<|And.intro @Qu1<|And.intro @Qu0<|And.intro @QuZ<|And.intro @QuY<|And.intro @s67<|And.intro @Qvv<|And.intro @Qmf<|And.intro @QtD<|And.intro @Qyv<|And.intro @Qwq<|@Qxq
theorem TN1:type_of% (And.intro @ne_eq.{1} <| And.intro @eq_self.{1} <| And.intro @not_false_eq_true<|And.intro @not_true_eq_false @and_self):=And.intro @ne_eq.{1} <| And.intro @eq_self.{1} <| And.intro @not_false_eq_true<|And.intro @not_true_eq_false @and_self
theorem TN:type_of% (And.intro TN1 (And.intro RN<|And.intro RN2<|And.intro RM TN0)):=And.intro TN1 (And.intro RN<|And.intro RN2<|And.intro RM TN0)
end Go.Proofs.YtallpjhkmcgpoaaGreat.P
end
section
namespace Go.Proofs.YtallpjhkmcgpoaaGreat.V
open Go Go.RowKit
section
variable {call:QaM} {n:Nat} {tm:Tm} {rs:Rs}
def Qyk (sz0:Nat) (x:AV) (lo hi mx:Option AV) (rs:Rs):Option (AV×Rs):=match x with
 | .slc r q pv sz off len=>if sz=sz0 then (Qeh.bndv len mx len).bind fun m=>(Qeh.bndv m hi m).bind fun h=>(Qeh.bndv h lo 0).map fun _=>(.undef,rs) else none
 | _=>none
theorem Qi0 {sz0:Nat} {x:X} {lo hi mx:Option X} : evI call n tm rs (.slM sz0 x lo hi mx)=Qyk sz0 (x.ev tm) (oX tm lo) (oX tm hi) (oX tm mx) rs:=by
 simp only [evI,Qyk,QpZ,QkX]
 cases x.ev tm <;> rfl
theorem QuO {r:Nat} {q:QaO} {pv sz off len:Nat} {k1 k2 k3:IntKind} {l h m:Int} (h0:0≤l) (h1:l≤h) (h2:h≤m) (h3:m≤(len:Int)) :
 Qyk sz (.slc r q pv sz off len) (some (.i k1 l)) (some (.i k2 h)) (some (.i k3 m)) rs=some (.undef,rs):=by
 simp only [Qyk,Qeh.bndv, ↓reduceIte,if_pos (show 0≤m∧m≤(len:Int) from ⟨by omega,h3⟩),Option.bind_some,if_pos (show 0≤h∧h≤((m.toNat:Nat):Int) from ⟨by omega,by omega⟩),if_pos (show 0≤l∧l≤((h.toNat:Nat):Int) from ⟨h0,by omega⟩),Option.map_some]
def Qyi (sz0 r pv sz off len:Nat) (lo hi:Option AV) (R:Option Qaj) (rs:Rs):Option (AV×Rs):=match R with
 | some R=>if sz=sz0 then (Qeh.bndv (max len (R.xs.length-off)) hi len).bind fun h=>(Qeh.bndv h lo 0).map fun l=>(.slc r [] pv sz (off+l) (h-l),rs) else none
 | none=>none
def Qyl (sz0:Nat) (x:AV) (lo hi:Option AV) (rs:Rs):Option (AV×Rs):=match x with
 | .slc r q pv sz off len=>(QcV rs r q pv).bind fun a=>if sz=sz0 then (Qeh.bndv (max len (a.2.2.2.length-off)) hi len).bind fun h=>(Qeh.bndv h lo 0).map fun l=>(.slc r q pv sz (off+l) (h-l),rs) else none
 | _=>none
theorem Qi1 {sz0:Nat} {x:X} {lo hi:Option X} : evI call n tm rs (.slC sz0 x lo hi)=Qyl sz0 (x.ev tm) (oX tm lo) (oX tm hi) rs:=by
 simp only [evI,Qyl,QpZ,QkX]
 cases x.ev tm <;> rfl
theorem QiJ {sz0 r pv sz off len:Nat} {lo hi:Option AV} : Qyl sz0 (.slc r [] pv sz off len) lo hi rs=Qyi sz0 r pv sz off len lo hi (rs r) rs:=by
 simp only [Qyl,QcV,Qyi]
 cases rs r <;> rfl
theorem Qws {r pv sz off len p:Nat} {xs:Els} {own:Bool} {k1 k2:IntKind} {l h:Int} (h0:0≤l) (h1:l≤h) (h2:h≤(max len (xs.length-off):Nat)) :
 Qyi sz r pv sz off len (some (.i k1 l)) (some (.i k2 h)) (some ⟨own,sz,p,xs⟩) rs=some (.slc r [] pv sz (off+l.toNat) (h.toNat-l.toNat),rs):=by
 simp only [Qyi,Qeh.bndv, ↓reduceIte]
 rw [if_pos (show 0≤h∧h≤((max len (xs.length-off):Nat):Int) from ⟨by omega,h2⟩)]
 simp only [Option.bind_some]
 rw [if_pos (show 0≤l∧l≤((h.toNat:Nat):Int) from ⟨h0,by omega⟩)]
 rfl
def QwH (zero:List AV) (x:AV) (rs:Rs):Option (AV×Rs):=match x with
 | .slc r q pv sz off len=>if q=[]∧sz=zero.length then (rs r).bind fun R =>
  if R.own=true∧Q8 (List.replicate len zero)=false then some (.undef,up' rs r (some { R with xs:=QdF off (List.replicate len zero) R.xs })) else none
  else none
 | _=>none
theorem Qi2 {zero:List AV} {x:X} : evI call n tm rs (.clr zero x)=QwH zero (x.ev tm) rs:=by
 simp only [evI,QwH]
 cases x.ev tm <;> rfl
theorem QqT {zero:List AV} (hz:Qa7 zero=false) (len:Nat):Q8 (List.replicate len zero)=false:=by
 simp only [Q8,List.any_eq_false]
 intro x hx
 rw [(List.mem_replicate.1 hx).2,hz];simp
theorem Qy8 {zero:List AV} {r pv sz off len s p:Nat} {xs:Els} {m:List (Nat×Option Qaj)} (hs:sz=zero.length) (hr:rsL m r=some ⟨true,s,p,xs⟩) (hz:Qa7 zero=false) :
 QwH zero (.slc r [] pv sz off len) (rsL m)=some (.undef,rsL ((r,some ⟨true,s,p,QdF off (List.replicate len zero) xs⟩)::m)):=by
 simp only [QwH,hr,hs,and_self, ↓reduceIte,Option.bind_some,QqT hz,Qc1]
theorem Qy7 {zero:List AV} {r pv sz off len s p:Nat} {xs:Els} {m:List (Nat×Option Qaj)} (hs:sz=zero.length) (hz:Qa7 zero=false) :
 QwH zero (.slc r [] pv sz off len) (rsL ((r,some ⟨true,s,p,xs⟩)::m))=some (.undef,rsL ((r,some ⟨true,s,p,QdF off (List.replicate len zero) xs⟩)::(r,some ⟨true,s,p,xs⟩)::m)):=Qy8 hs (by simp only [QfK, ↓reduceIte]) hz
theorem Qze {x:Int} {r off sz k:Nat} (h:0≤x):QcP .gtr 0 (.i .i64 x) (.cv 0 r off sz k) rs=some (.cv 1 r off sz x.toNat,rs):=by simp [QcP,Qby,QeM,h]
theorem Qp4 {E:Env} {x:X} {a b:C} {st:St} {Q:Pst} {r off sz k:Nat} : WC E x (.cv 1 r off sz k) a b st Q=(W E a (tok x 3 r off sz k st) Q∧W E b (tok x 2 r off sz k st) Q):=(rfl)
theorem QoD {c k r off sz m nx:Nat} {l:List (Nat×AV)} : tok (.t c) k r off sz m ⟨Qav l,rs,nx⟩=⟨Qav ((c, .cv k r off sz m)::l),rs,nx⟩:=(rfl)
def Qpr (fresh by':Nat) (zero:List AV) (off len n:Nat) (m:Int) (R:Option Qaj) (rs:Rs):Option (AV×Rs):=match R with
 | some R=>if 0<m∧R.own=true∧Q8 (wnd R.xs off len)=false∧n≤len+m.toNat∧off<R.xs.length∧(len+m.toNat) * by'≤140737488355328 then
           some (.slc fresh [] 0 zero.length 0 (len+m.toNat),up' rs fresh (some ⟨true,zero.length,0,wnd R.xs off len++List.replicate m.toNat zero⟩)) else none
 | none=>none
theorem QkC {fresh by' r off sz k pv len:Nat} {zero:List AV} {m:Int} (hs:sz=zero.length):Qtn fresh by' zero (.cv 3 r off sz k) (.slc r [] pv sz off len) (.i .i64 m) rs=Qpr fresh by' zero off len k m (rs r) rs:=by
 subst hs
 simp only [Qtn,and_self, ↓reduceIte,Qpr]
 cases rs r with
 | none=>split <;> rfl
 | some R=>by_cases h:0<m <;> simp only [h, ↓reduceIte,true_and,false_and,Option.bind_some]
theorem Qtf {fresh by' off len k s p:Nat} {zero:List AV} {m:Int} {xs:Els} {l:List (Nat×Option Qaj)} (h0:0<m) (h1:Q8 (wnd xs off len)=false) (h2:k≤len+m.toNat) (h3:off<xs.length) (h4:(len+m.toNat) * by'≤140737488355328) :
 Qpr fresh by' zero off len k m (some ⟨true,s,p,xs⟩) (rsL l)=some (.slc fresh [] 0 zero.length 0 (len+m.toNat),rsL ((fresh,some ⟨true,zero.length,0,wnd xs off len++List.replicate m.toNat zero⟩)::l)):=by
 simp only [Qpr];rw [if_pos ⟨h0,trivial,h1,h2,h3,h4⟩,Qc1]
def QyR (fresh sz:Nat) (k x hi:AV) (rs:Rs):Option (AV×Rs):=match k,x,hi with
 | .cv 2 r off sz1 n, .slc r1 q pv sz2 off1 len, .i _ h=>if r=r1∧q=[]∧sz1=sz∧sz2=sz∧off=off1∧0<len∧0≤h∧h≤n then (rs r).bind fun R =>
  if R.own=true then some (.slc fresh [] 0 sz off h.toNat,up' (kill rs [r]) fresh (some ⟨true,sz,0,R.xs++List.replicate (off+h.toNat-R.xs.length) (List.replicate sz .undef)⟩)) else none
  else none
 | _,_,_=>none
theorem Qpk {sz:Nat} {k x hi:X} : evI call n tm rs (.slX sz k x hi)=QyR n sz (k.ev tm) (x.ev tm) (hi.ev tm) rs:=(rfl)
def Qyh (fresh sz r off h:Nat) (R:Option Qaj) (rs:Rs):Option (AV×Rs):=match R with
 | some R=>if R.own=true then some (.slc fresh [] 0 sz off h,up' (kill rs [r]) fresh (some ⟨true,sz,0,R.xs++List.replicate (off+h-R.xs.length) (List.replicate sz .undef)⟩)) else none
 | none=>none
theorem Qyy {fresh sz r off k pv len:Nat} {kk:IntKind} {h:Int} (h1:0<len) (h2:0≤h) (h3:h≤(k:Int)):QyR fresh sz (.cv 2 r off sz k) (.slc r [] pv sz off len) (.i kk h) rs=Qyh fresh sz r off h.toNat (rs r) rs:=by
 simp only [QyR,true_and,h1,h2,h3,and_self, ↓reduceIte,Qyh]
 cases rs r <;> rfl
theorem Qkb {fresh sz r off h s p:Nat} {xs:Els} {l:List (Nat×Option Qaj)} : Qyh fresh sz r off h (some ⟨true,s,p,xs⟩) (rsL l)=some (.slc fresh [] 0 sz off h,rsL ((fresh,some ⟨true,sz,0,xs++List.replicate (off+h-xs.length) (List.replicate sz .undef)⟩)::(r,none)::l)):=by
 simp only [Qyh, ↓reduceIte,Qb6,QbA,Qc1]
def QyS (sz:Nat) (x y:AV) (rs:Rs):Option (AV×Rs):=match x,y with
 | .slc r q pv sz1 off len, .slc r2 q2 pv2 sz2 off2 len2=>if q=[]∧q2=[]∧r≠r2∧sz1=sz∧sz2=sz∧0<len∧0<len2 then ((rs r).bind fun R=>(rs r2).bind fun R2=>if R.own=true then some (AV.b false) else none).map (·, rs) else none
 | _,_=>none
theorem Qpl {sz:Nat} {x y:X} : evI call n tm rs (.ovl sz x y)=QyS sz (x.ev tm) (y.ev tm) rs:=(rfl)
def QyP (R R2:Option Qaj) (rs:Rs):Option (AV×Rs):=match R,R2 with
 | some R,some _=>if R.own=true then some (.b false,rs) else none
 | _,_=>none
theorem QyE {sz r pv off len r2 pv2 off2 len2:Nat} (h:decide (r≠r2)=true) (h1:0<len) (h2:0<len2):QyS sz (.slc r [] pv sz off len) (.slc r2 [] pv2 sz off2 len2) rs=QyP (rs r) (rs r2) rs:=by
 have h':r≠r2:=by simpa using h
 simp only [QyS,true_and,h',ne_eq,not_false_eq_true,h1,h2,and_self, ↓reduceIte,QyP]
 cases rs r with
 | none=>rfl
 | some R=>cases rs r2 with
  | none=>rfl
  | some R2=>simp only [Option.bind_some];split <;> rfl
theorem Qkc {s p:Nat} {xs:Els} {R2:Qaj} : QyP (some ⟨true,s,p,xs⟩) (some R2) rs=some (.b false,rs):=(rfl)
def Qpw (sz:Nat) (x y:AV) (rs:Rs):Option (AV×Rs):=match x with
 | .slc r q pv sz' off len=>match y with
  | .slc r2 q2 pv2 sz2 off2 len2=>if q=[]∧sz'=sz∧sz2=sz then (rs r).bind fun R=>(QcV rs r2 q2 pv2).bind fun a =>
   if R.own=true∧Q8 (wnd a.2.2.2 off2 (min len2 len))=false then some (.i .i64 (min len2 len:Nat),up' rs r (some { R with xs:=QdF off (wnd a.2.2.2 off2 (min len2 len)) R.xs })) else none
   else none
  | _=>none
 | _=>none
theorem Qj6 {sz:Nat} {x y:X} : evI call n tm rs (.copy sz x y)=Qpw sz (x.ev tm) (y.ev tm) rs:=by
 simp only [evI,Qpw]
 cases x.ev tm <;> rfl
def Qpq (r off len off2 len2:Nat) (R R2:Option Qaj) (rs:Rs):Option (AV×Rs):=match R,R2 with
 | some R,some R2=>if R.own=true∧Q8 (wnd R2.xs off2 (min len2 len))=false then some (.i .i64 (min len2 len:Nat),up' rs r (some { R with xs:=QdF off (wnd R2.xs off2 (min len2 len)) R.xs })) else none
 | _,_=>none
theorem Qks {sz r pv off len r2 pv2 off2 len2:Nat} : Qpw sz (.slc r [] pv sz off len) (.slc r2 [] pv2 sz off2 len2) rs=Qpq r off len off2 len2 (rs r) (rs r2) rs:=by
 simp only [Qpw,true_and,and_self, ↓reduceIte,Qpq,QcV]
 cases rs r with
 | none=>rfl
 | some R=>cases rs r2 <;> rfl
theorem Qno {r off len off2 len2 s p s2 p2:Nat} {own2:Bool} {xs ys:Els} {l:List (Nat×Option Qaj)} (h:Q8 (wnd ys off2 (min len2 len))=false) :
 Qpq r off len off2 len2 (some ⟨true,s,p,xs⟩) (some ⟨own2,s2,p2,ys⟩) (rsL l)=some (.i .i64 (min len2 len:Nat),rsL ((r,some ⟨true,s,p,QdF off (wnd ys off2 (min len2 len)) xs⟩)::l)):=by
 simp only [Qpq,h,and_self, ↓reduceIte,Qc1]
def Qkh (sz:Nat) (x y:AV) (rs:Rs):Option (AV×Rs):=match x with
 | .slc r q pv sz' off len=>match y with
  | .slc r2 q2 pv2 sz2 off2 len2=>if q=[]∧q2=[]∧r≠r2∧sz'=sz∧sz2=sz then (rs r).bind fun R=>(rs r2).bind fun R2 =>
   if R.own=true∧Q8 (wnd R2.xs off2 (min len2 len))=false then some (.i .i64 (min len2 len:Nat),kill (up' rs r (some { R with xs:=QdF off (wnd R2.xs off2 (min len2 len)) R.xs })) [r2]) else none
   else none
  | _=>none
 | _=>none
theorem Qhk {sz:Nat} {x y:X} : evI call n tm rs (.copyK sz x y)=Qkh sz (x.ev tm) (y.ev tm) rs:=by
 simp only [evI,Qkh]
 cases x.ev tm <;> rfl
def Qkd (r off len r2 off2 len2:Nat) (R R2:Option Qaj) (rs:Rs):Option (AV×Rs):=match R,R2 with
 | some R,some R2=>if R.own=true∧Q8 (wnd R2.xs off2 (min len2 len))=false then some (.i .i64 (min len2 len:Nat),kill (up' rs r (some { R with xs:=QdF off (wnd R2.xs off2 (min len2 len)) R.xs })) [r2]) else none
 | _,_=>none
theorem Qhu {sz r pv off len r2 pv2 off2 len2:Nat} (h:decide (r≠r2)=true):Qkh sz (.slc r [] pv sz off len) (.slc r2 [] pv2 sz off2 len2) rs=Qkd r off len r2 off2 len2 (rs r) (rs r2) rs:=by
 have h':r≠r2:=by simpa using h
 simp only [Qkh,true_and,h',ne_eq,not_false_eq_true,and_self, ↓reduceIte,Qkd]
 cases rs r with
 | none=>rfl
 | some R=>cases rs r2 <;> rfl
theorem Qpp {r off len r2 off2 len2 s p s2 p2:Nat} {own2:Bool} {xs ys:Els} {l:List (Nat×Option Qaj)} (h:Q8 (wnd ys off2 (min len2 len))=false) :
 Qkd r off len r2 off2 len2 (some ⟨true,s,p,xs⟩) (some ⟨own2,s2,p2,ys⟩) (rsL l)=some (.i .i64 (min len2 len:Nat),rsL ((r2,none)::(r,some ⟨true,s,p,QdF off (wnd ys off2 (min len2 len)) xs⟩)::l)):=by
 simp only [Qkd,h,and_self, ↓reduceIte,Qc1,Qb6,QbA]
theorem QxZ {sz by':Nat} {ys pre post:Els} {r0:Option Nat} {m:List (Nat×Option Qaj)} (h:(pre.length+ys.length) * by'≤140737488355328) :
 QgK n sz by' (some (ys,[])) (Qfm pre post (rsL m) r0)=some (.slc n [] 0 sz 0 (pre.length+ys.length),rsL ((n,some ⟨true,sz,0,pre++ys++post.drop ys.length⟩)::m)):=by
 simp [QgK,Qfm,h,QbA,Qc1]
end
def Qy4 (sz by':Nat) (zero:List AV):C:=(.seq (.kp [0,1,2] (.ops [o 6 (.mv (.k (.nl sz)))])) (.seq (.kp [0,1,2] (.ops [o 8 (.mv (.t 0)),o 9 (.mv (.t 1)),o 10 (.mv (.t 2)),o 11 (.mv (.t 0)),o 12 (.len false (.t 11)),o 13 (.slM sz (.t 8) (some (.t 9)) (some (.t 10)) (some (.t 12)))])) (.seq (.seq (.kp [0,1,2,16] (.ops [o 14 (.mv (.t 1)),o 15 (.mv (.t 2)),o 16 (.bin .eql 0 (.t 14) (.t 15))])) (.cond (.t 16) (.seq (.kp [6] (.ops [o 17 (.mv (.t 0)),o 6 (.mv (.t 17))])) C.ret) C.skip)) (.seq (.kp [0,1,2,7] (.ops [o 18 (.mv (.t 0)),o 19 (.len false (.t 18)),o 7 (.mv (.t 19))])) (.seq (.kp [0,7] (.draw (sq 8) [o 20 (.mv (.t 0)),o 21 (.mv (.t 1)),o 22 (.slR sz (.t 20) none (some (.t 21))),o 23 (.mv (.t 0)),o 24 (.mv (.t 2)),o 25 (.slR sz (.t 23) (some (.t 24)) none),o 26 (.app sz by' (.t 22) (.t 25)),o 0 (.mv (.t 26))])) (.seq (.kp [0] (.ops [o 27 (.mv (.t 0)),o 28 (.mv (.t 0)),o 29 (.len false (.t 28)),o 30 (.mv (.t 7)),o 31 (.slC sz (.t 27) (some (.t 29)) (some (.t 30))),oz none none [] (.clr zero (.t 31))])) (.seq (.kp [6] (.ops [o 32 (.mv (.t 0)),o 6 (.mv (.t 32))])) C.ret)))))))
def Qyq (sz by':Nat) (zero:List AV):Fn:=⟨1,Qy4 sz by' zero,[.t 6]⟩
theorem QtE {z:List AV} {xs:Els} {i j:Nat} (h1:i≤j) (h2:j≤xs.length):wnd (QdF (0+(i+(xs.length-j))) (List.replicate (xs.length-(i+(xs.length-j))) z) (wnd xs 0 i++wnd xs j (xs.length-j)++(xs.drop (0+i)).drop (wnd xs j (xs.length-j)).length)) 0 (i+(xs.length-j))=xs.take i++xs.drop j:=by
 have e1:wnd xs 0 i=xs.take i:=by simp [wnd]
 have e2:wnd xs j (xs.length-j)=xs.drop j:=by rw [wnd,List.take_of_length_le (by simp)]
 have l1:(xs.take i).length=i:=by simp;omega
 have l2:(xs.drop j).length=xs.length-j:=by simp
 rw [e1,e2]
 have l3:(xs.take i++xs.drop j).length=i+(xs.length-j):=by rw [List.length_append,l1,l2]
 simp only [wnd,QdF,List.drop_zero,Nat.zero_add,List.append_assoc]
 generalize List.drop (List.drop j xs).length (List.drop i xs)=r1
 rw [←List.append_assoc (List.take i xs)]
 generalize List.take i xs++List.drop j xs=A at *
 rw [←l3]
 simp
theorem Qko {E:Env} {f sz by':Nat} {zero:List AV} (hE:E.ext f=none) (hF:E.fns f=some (Qyq sz by' zero)) (hz:zero.length=sz) (hzd:Qa7 zero=false) {xs:Els} (hd:Q8 xs=false) {i j:Int} (h0:0≤i) (h1:i≤j) (h2:j≤(xs.length:Int)) (hb:xs.length * by'≤140737488355328) :
 Qao E f [.deep false false sz xs, .i .i64 i, .i .i64 j]=some ([.deep false false sz (xs.take i.toNat++xs.drop j.toNat)],[none]):=by
 refine QM (F:=Qyq sz by' zero) (tm:=Qav [(0, .slc 0 [] 0 sz 0 xs.length),(1, .i .i64 i),(2, .i .i64 j)]) (rs:=rsL [(0,some ⟨true,sz,0,xs⟩)]) (nx:=1) (ow:=[true]) hE hF (by simp only [SN]) (by simp only [SN]) (Nat.le_refl 1) ?_
 show W E (Qy4 sz by' zero) _ (Qf [.t 6] [true] _)
 unfold Qy4
 have hi:i≤(xs.length:Int):=by omega
 have hj:0≤j:=by omega
 have hdw:∀ off len,Q8 (wnd xs off len)=false:=fun off len=>by
  simp only [Q8,List.any_eq_false] at hd ⊢
  exact fun x hx=>hd x (List.mem_of_mem_drop (List.mem_of_mem_take hx))
 have hl1:(wnd xs 0 i.toNat).length=i.toNat:=QaS (by omega)
 have hl2:(wnd xs (0+j.toNat) (xs.length-j.toNat)).length=xs.length-j.toNat:=QaS (by omega)
 have hbb:((wnd xs 0 i.toNat).length+(wnd xs (0+j.toNat) (xs.length-j.toNat)).length) * by'≤140737488355328:=by
  rw [hl1,hl2];exact Nat.le_trans (Nat.mul_le_mul_right _ (by omega)) hb
 by_cases hij:i=j
 ·simp only [RN,Qi0,Qi1,QiJ,Qi2, ↓reduceIte,Nat.reduceEqDiff,Nat.reduceAdd,Nat.reduceMul,Nat.reduceSub,Nat.reduceLeDiff,Nat.reduceLT,Nat.reduceBEq,Nat.reduceBNe,Int.reduceLE,Int.reduceLT,Int.reduceEq,Int.reduceToNat,ne_eq,not_false_eq_true,not_true_eq_false,reduceCtorEq,and_self,eq_self,QuO h0 h1 h2 (Int.le_refl _),eq_true hij]
  subst hij
  have e1:wnd xs 0 xs.length=xs:=by simp [wnd]
  rw [e1,List.take_append_drop]
 ·simp only [RN,Qi0,Qi1,QiJ,Qi2, ↓reduceIte,Nat.reduceEqDiff,Nat.reduceAdd,Nat.reduceMul,Nat.reduceSub,Nat.reduceLeDiff,Nat.reduceLT,Nat.reduceBEq,Nat.reduceBNe,Int.reduceLE,Int.reduceLT,Int.reduceEq,Int.reduceToNat,ne_eq,not_false_eq_true,not_true_eq_false,reduceCtorEq,and_self,eq_self,QuO h0 h1 h2 (Int.le_refl _),hij,h0,hi,hj,h2,hdw,QxZ hbb]
  have hcut:=QtE (z:=zero) (xs:=xs) (i:=i.toNat) (j:=j.toNat) (by omega) (by omega)
  have hly:(wnd xs 0 i.toNat++wnd xs (0+j.toNat) (xs.length-j.toNat)++List.drop (wnd xs (0+j.toNat) (xs.length-j.toNat)).length (List.drop (0+i.toNat) xs)).length=xs.length:=by
   simp only [List.length_append,List.length_drop,hl1,hl2];omega
  rw [Nat.zero_add (j.toNat)] at hl2 hly ⊢
  rw [hl1,hl2] at *
  generalize hY:wnd xs 0 i.toNat++wnd xs j.toNat (xs.length-j.toNat)++List.drop (xs.length-j.toNat) (List.drop (0+i.toNat) xs)=Y at *
  generalize hN:i.toNat+(xs.length-j.toNat)=N at *
  have hNl:N≤xs.length:=by omega
  rw [Qws (by omega) (by omega) (by omega)]
  simp only [RN,Qi0,Qi1,QiJ,Qi2, ↓reduceIte,Nat.reduceEqDiff,Nat.reduceAdd,Nat.reduceMul,Nat.reduceSub,Nat.reduceLeDiff,Nat.reduceLT,Nat.reduceBEq,Nat.reduceBNe,Int.reduceLE,Int.reduceLT,Int.reduceEq,Int.reduceToNat,ne_eq,not_false_eq_true,not_true_eq_false,reduceCtorEq,and_self,eq_self,Qy7 hz.symm hzd]
  simp only [Int.toNat_natCast,Nat.zero_add]
  rw [Nat.zero_add] at hcut
  rw [←hcut];rfl
def QyJ (sz by':Nat) (zero:List AV) (rot:Nat):C:=(.seq (.kp [0,1,2] (.ops [o 6 (.mv (.k (.nl sz)))])) (.seq (.kp [0,1,2] (.ops [o 10 (.mv (.t 0)),o 11 (.mv (.t 1)),o 12 (.slR sz (.t 10) (some (.t 11)) none)])) (.seq (.kp [0,1,2,7] (.ops [o 13 (.mv (.t 2)),o 14 (.len false (.t 13)),o 7 (.mv (.t 14))])) (.seq (.seq (.kp [0,1,2,7,16] (.ops [o 15 (.mv (.t 7)),o 16 (.bin .eql 0 (.t 15) (.k (.i .i64 0)))])) (.cond (.t 16) (.seq (.kp [6] (.ops [o 17 (.mv (.t 0)),o 6 (.mv (.t 17))])) C.ret) C.skip)) (.seq (.kp [0,1,2,7,8] (.ops [o 18 (.mv (.t 0)),o 19 (.len false (.t 18)),o 8 (.mv (.t 19))])) (.seq (.seq (.kp [0,1,2,7,8,22] (.ops [o 20 (.mv (.t 1)),o 21 (.mv (.t 8)),o 22 (.bin .eql 0 (.t 20) (.t 21))])) (.cond (.t 22) (.seq (.kp [6] (.ops [o 23 (.mv (.t 0)),o 24 (.mv (.t 2)),o 25 (.app sz by' (.t 23) (.t 24)),o 6 (.mv (.t 25))])) C.ret) C.skip)) (.seq (.seq (.kp [0,1,2,7,8,31] (.ops [o 26 (.mv (.t 8)),o 27 (.mv (.t 7)),o 28 (.bin .add 0 (.t 26) (.t 27)),o 29 (.mv (.t 0)),o 30 (.cap (.t 29)),o 31 (.bin .gtr 0 (.t 28) (.t 30))])) (.cond (.t 31) (.seq (.kp [0,1,2,7,9] (.ops [o 32 (.mv (.t 0)),o 33 (.mv (.t 1)),o 34 (.slR sz (.t 32) none (some (.t 33))),o 35 (.mv (.t 8)),o 36 (.mv (.t 7)),o 37 (.bin .add 0 (.t 35) (.t 36)),o 38 (.mv (.t 1)),o 39 (.bin .sub 0 (.t 37) (.t 38)),o 40 (.appZ by' zero (.t 31) (.t 34) (.t 39)),o 9 (.mv (.t 40))])) (.seq (.kp [0,1,7,9] (.ops [o 41 (.mv (.t 9)),o 42 (.mv (.t 1)),o 43 (.slR sz (.t 41) (some (.t 42)) none),o 44 (.mv (.t 2)),o 45 (.copy sz (.t 43) (.t 44))])) (.seq (.kp [9] (.draw (sq 9) [o 46 (.mv (.t 9)),o 47 (.mv (.t 1)),o 48 (.mv (.t 7)),o 49 (.bin .add 0 (.t 47) (.t 48)),o 50 (.slR sz (.t 46) (some (.t 49)) none),o 51 (.mv (.t 0)),o 52 (.mv (.t 1)),o 53 (.slR sz (.t 51) (some (.t 52)) none),o 54 (.copyK sz (.t 50) (.t 53))])) (.seq (.kp [6] (.ops [o 55 (.mv (.t 9)),o 6 (.mv (.t 55))])) C.ret)))) C.skip)) (.seq (.kp [0,1,2,7,8] (.ops [o 56 (.mv (.t 0)),o 57 (.mv (.t 8)),o 58 (.mv (.t 7)),o 59 (.bin .add 0 (.t 57) (.t 58)),o 60 (.slX sz (.t 31) (.t 56) (.t 59)),o 0 (.mv (.t 60))])) (.seq (.seq (.kp [0,1,2,7,8,68] (.ops [o 61 (.mv (.t 2)),o 62 (.mv (.t 0)),o 63 (.mv (.t 1)),o 64 (.mv (.t 7)),o 65 (.bin .add 0 (.t 63) (.t 64)),o 66 (.slR sz (.t 62) (some (.t 65)) none),o 67 (.ovl sz (.t 61) (.t 66)),o 68 (.un .not (.t 67))])) (.cond (.t 68) (.seq (.kp [0,1,2] (.draw (sq 9) [o 69 (.mv (.t 0)),o 70 (.mv (.t 1)),o 71 (.mv (.t 7)),o 72 (.bin .add 0 (.t 70) (.t 71)),o 73 (.slR sz (.t 69) (some (.t 72)) none),o 74 (.mv (.t 0)),o 75 (.mv (.t 1)),o 76 (.slR sz (.t 74) (some (.t 75)) none),o 77 (.copy sz (.t 73) (.t 76))])) (.seq (.kp [0] (.ops [o 78 (.mv (.t 0)),o 79 (.mv (.t 1)),o 80 (.slR sz (.t 78) (some (.t 79)) none),o 81 (.mv (.t 2)),o 82 (.copy sz (.t 80) (.t 81))])) (.seq (.kp [6] (.ops [o 83 (.mv (.t 0)),o 6 (.mv (.t 83))])) C.ret))) C.skip)) (.seq (.kp [0,1,7] (.ops [o 84 (.mv (.t 0)),o 85 (.mv (.t 8)),o 86 (.slR sz (.t 84) (some (.t 85)) none),o 87 (.mv (.t 2)),o 88 (.copy sz (.t 86) (.t 87))])) (.seq (.kp [0] (.ops [o 89 (.mv (.t 0)),o 90 (.mv (.t 1)),o 91 (.slR sz (.t 89) (some (.t 90)) none),o 92 (.mv (.t 7)),o 93 (.call rot [true,false] [.t 91, .t 92])])) (.seq (.kp [6] (.ops [o 94 (.mv (.t 0)),o 6 (.mv (.t 94))])) C.ret))))))))))))
def Qyf (sz by':Nat) (zero:List AV) (rot:Nat):Fn:=⟨2,QyJ sz by' zero rot,[.t 6]⟩
theorem Qfu {A V Z:Els} {n:Nat} (h:n=A.length):QdF n V (A++Z)=A++V++Z.drop V.length:=by
 subst h
 simp only [QdF,List.take_left',List.append_assoc,List.append_cancel_left_eq]
 rw [List.drop_append,List.drop_of_length_le (by omega),Nat.add_sub_cancel_left,List.nil_append]
theorem Qlv {A Z:Els} {n:Nat} (h:n=A.length):wnd (A++Z) 0 n=A:=by subst h;simp [wnd]
theorem Qtb {xs vs Z:Els} {k:Nat} (h:k≤xs.length) (hZ:True) :
 wnd (QdF (0+(k+vs.length)) (xs.drop k) (QdF (0+k) vs (xs.take k++Z))) 0 (xs.length+vs.length)=xs.take k++vs++xs.drop k:=by
 have l1:(xs.take k).length=k:=by simp;omega
 rw [Nat.zero_add,Nat.zero_add,Qfu l1.symm,Qfu (by rw [List.length_append,l1]),Qlv (by simp only [List.length_append,l1,List.length_drop];omega)]
theorem Qpj {xs vs U:Els} {k:Nat} (h:k≤xs.length) (hU:vs.length≤U.length) :
 wnd (QdF (0+k) vs (QdF (0+(k+vs.length)) (xs.drop k) (xs++U))) 0 (xs.length+vs.length)=xs.take k++vs++xs.drop k:=by
 rw [Nat.zero_add,Nat.zero_add]
 have l1:(xs.take k).length=k:=by simp;omega
 have e0:xs++U=(xs++U).take (k+vs.length)++(xs++U).drop (k+vs.length):=(List.take_append_drop _ _).symm
 have l2:((xs++U).take (k+vs.length)).length=k+vs.length:=by simp;omega
 have e1:(xs++U).take (k+vs.length)=xs.take k++((xs++U).take (k+vs.length)).drop k:=by
  have:=List.take_append_drop k ((xs++U).take (k+vs.length))
  rw [List.take_take,Nat.min_eq_left (by omega),List.take_append_of_le_length h] at this
  exact this.symm
 rw [e0,Qfu l2.symm,e1,List.append_assoc,List.append_assoc (xs.take k),Qfu l1.symm]
 have l3:(((xs++U).take (k+vs.length)).drop k).length=vs.length:=by rw [List.length_drop,l2];omega
 rw [List.drop_append,List.drop_of_length_le (by omega),l3,Nat.sub_self,List.drop_zero,List.nil_append]
 rw [←List.append_assoc,Qlv]
 simp only [List.length_append,l1,List.length_drop];omega
theorem Qj3 {E:Env} {f sz by' rot:Nat} {zero:List AV} (hE:E.ext f=none) (hF:E.fns f=some (Qyf sz by' zero rot)) (hz:zero.length=sz) (hzd:Qa7 zero=false) (hby:0<by') {xs vs:Els} (hd:Q8 xs=false) (hdv:Q8 vs=false) (hv:0<vs.length) {i:Int} (h0:0≤i) (h1:i≤(xs.length:Int)) (hb:(xs.length+vs.length) * by'≤140737488355328) :
 Qao E f [.deep false false sz xs, .i .i64 i, .deep false false sz vs]=some ([.deep false false sz (xs.take i.toNat++vs++xs.drop i.toNat)],[none,some vs]):=by
 subst hz
 obtain ⟨k,rfl⟩:∃ k:Nat,i=k:=⟨i.toNat,by omega⟩
 simp only [Int.toNat_natCast]
 refine QM (F:=Qyf zero.length by' zero rot) (tm:=Qav [(0, .slc 0 [] 0 zero.length 0 xs.length),(1, .i .i64 k),(2, .slc 1 [] 0 zero.length 0 vs.length)]) (rs:=rsL [(0,some ⟨true,zero.length,0,xs⟩),(1,some ⟨true,zero.length,0,vs⟩)]) (nx:=2) (ow:=[true,true]) hE hF (by simp only [SN]) (by simp only [SN]) (Nat.le_refl 2) ?_
 show W E (QyJ zero.length by' zero rot) _ (Qf [.t 6] [true,true] _)
 unfold QyJ
 have hsm:xs.length+vs.length≤140737488355328:=Nat.le_trans (Nat.le_mul_of_pos_right _ hby) hb
 have hm0:¬((vs.length:Int)=0):=by omega
 have hdw:∀ {xs:Els}, Q8 xs=false→∀ off len,Q8 (wnd xs off len)=false:=fun {xs} hd off len=>by
  simp only [Q8,List.any_eq_false] at hd ⊢
  exact fun x hx=>hd x (List.mem_of_mem_drop (List.mem_of_mem_take hx))
 have w0:∀ {xs:Els}, wnd xs 0 xs.length=xs:=fun {xs} => by simp [wnd]
 by_cases hkn:(k:Int)=(xs.length:Int)
 ·simp only [RN,Qi0,Qi1,QiJ,Qi2,Qk1,QgG,QkC,Qpk,Qpl,Qj6,Qks,Qhk,Qhu,Qkc,Qkb,Qp4,QoD, ↓reduceIte,Nat.reduceEqDiff,Nat.reduceAdd,Nat.reduceMul,Nat.reduceSub,Nat.reduceLeDiff,Nat.reduceLT,Nat.reduceBEq,Nat.reduceBNe,Int.reduceLE,Int.reduceLT,Int.reduceEq,Int.reduceToNat,ne_eq,not_false_eq_true,not_true_eq_false,reduceCtorEq,and_self,eq_self,h0,h1,hm0,eq_true hkn,hd,hdv,w0,QxZ hb]
  have hk:k=xs.length:=by omega
  subst hk
  rw [List.take_length,List.drop_length,List.append_nil]
  have e1:List.take (xs.length+vs.length) (xs++vs)=xs++vs:=List.take_of_length_le (by simp)
  simp [wnd,bkX,e1]
 ·have hx0:0<xs.length:=by omega
  have hnn:(0:Int)≤((xs.length+vs.length:Nat):Int):=by omega
  have hw1:wrap64 ((xs.length:Int)+(vs.length:Int))=((xs.length+vs.length:Nat):Int):=by unfold wrap64;omega
  simp only [RN,Qi0,Qi1,QiJ,Qi2,Qk1,QgG,QkC,Qpk,Qpl,Qj6,Qks,Qhk,Qhu,Qkc,Qkb,Qp4,QoD, ↓reduceIte,Nat.reduceEqDiff,Nat.reduceAdd,Nat.reduceMul,Nat.reduceSub,Nat.reduceLeDiff,Nat.reduceLT,Nat.reduceBEq,Nat.reduceBNe,Int.reduceLE,Int.reduceLT,Int.reduceEq,Int.reduceToNat,ne_eq,not_false_eq_true,not_true_eq_false,reduceCtorEq,and_self,eq_self,h0,h1,hm0,hkn,hw1,Qy9 hx0,hnn,Qze,Int.toNat_natCast]
  refine ⟨?_, ?_⟩
  ·have hw2:wrap64 (((xs.length+vs.length:Nat):Int)-(k:Int))=((xs.length+vs.length-k:Nat):Int):=by unfold wrap64;omega
   have hw3:wrap64 ((k:Int)+(vs.length:Int))=((k+vs.length:Nat):Int):=by unfold wrap64;omega
   have f1:(0:Int)<((xs.length+vs.length-k:Nat):Int):=by omega
   have f3:xs.length+vs.length≤k+(xs.length+vs.length-k):=by omega
   have f4:(k+(xs.length+vs.length-k)) * by'≤140737488355328:=Nat.le_trans (Nat.mul_le_mul_right _ (by omega)) hb
   have g1:(k:Int)≤((k+(xs.length+vs.length-k):Nat):Int):=by omega
   have g2:(0:Int)≤((k+vs.length:Nat):Int):=by omega
   have g3:((k+vs.length:Nat):Int)≤((k+(xs.length+vs.length-k):Nat):Int):=by omega
   simp only [RN,Qi0,Qi1,QiJ,Qi2,Qk1,QgG,QkC,Qpk,Qpl,Qj6,Qks,Qhk,Qhu,Qkc,Qkb,Qp4,QoD, ↓reduceIte,Nat.reduceEqDiff,Nat.reduceAdd,Nat.reduceMul,Nat.reduceSub,Nat.reduceLeDiff,Nat.reduceLT,Nat.reduceBEq,Nat.reduceBNe,Int.reduceLE,Int.reduceLT,Int.reduceEq,Int.reduceToNat,ne_eq,not_false_eq_true,not_true_eq_false,reduceCtorEq,and_self,eq_self,h0,h1,hw1,hw2,hw3,Int.toNat_natCast,Qtf f1 (hdw hd 0 k) (by rw [Int.toNat_natCast];exact f3) hx0 (by rw [Int.toNat_natCast];exact f4),g1,g2,g3,Qno,Qpp,hdw hd,hdw hdv]
   have e1:wnd xs (0+k) (min (xs.length-k) (k+(xs.length+vs.length-k)-(k+vs.length)))=xs.drop k:=by
    rw [Nat.zero_add,wnd,List.take_of_length_le (by rw [List.length_drop];omega)]
   have e2:wnd vs 0 (min vs.length (k+(xs.length+vs.length-k)-k))=vs:=by
    rw [wnd,List.drop_zero,List.take_of_length_le (by omega)]
   have e3:wnd xs 0 k=xs.take k:=by simp [wnd]
   rw [e1,e2,e3,show k+(xs.length+vs.length-k)=xs.length+vs.length by omega,Qtb (by omega) trivial]
   rfl
  ·have hw3:wrap64 ((k:Int)+(vs.length:Int))=((k+vs.length:Nat):Int):=by unfold wrap64;omega
   have g0:((xs.length+vs.length:Nat):Int)≤((xs.length+vs.length:Nat):Int):=Int.le_refl _
   have g2:(0:Int)≤((k+vs.length:Nat):Int):=by omega
   have g3:((k+vs.length:Nat):Int)≤((xs.length+vs.length:Nat):Int):=by omega
   have g4:(k:Int)≤((xs.length+vs.length:Nat):Int):=by omega
   have g5:0<xs.length+vs.length-(k+vs.length):=by omega
   have hdU:Q8 (xs++List.replicate (0+(xs.length+vs.length)-xs.length) (List.replicate zero.length .undef))=false:=by
    refine Qge hd (QqT ?_ _)
    simp only [Qa7,List.any_eq_false]
    intro x hx
    rw [(List.mem_replicate.1 hx).2];simp [AV.isDeep]
   simp only [RN,Qi0,Qi1,QiJ,Qi2,Qk1,QgG,QkC,Qpk,Qpl,Qj6,Qks,Qhk,Qhu,Qkc,Qkb,Qp4,QoD, ↓reduceIte,Nat.reduceEqDiff,Nat.reduceAdd,Nat.reduceMul,Nat.reduceSub,Nat.reduceLeDiff,Nat.reduceLT,Nat.reduceBEq,Nat.reduceBNe,Int.reduceLE,Int.reduceLT,Int.reduceEq,Int.reduceToNat,ne_eq,not_false_eq_true,not_true_eq_false,reduceCtorEq,and_self,eq_self,h0,h1,hw1,hw3,Qyy hx0 hnn g0,Int.toNat_natCast,g2,g3,g4,g5,hv,QyE,Qno,hdw hdU,hdw hdv]
   generalize hU:List.replicate (0+(xs.length+vs.length)-xs.length) (List.replicate zero.length AV.undef)=U
   have hUl:U.length=vs.length:=by rw [←hU,List.length_replicate];omega
   have e1:wnd (xs++U) (0+k) (min (xs.length+vs.length-k) (xs.length+vs.length-(k+vs.length)))=xs.drop k:=by
    rw [Nat.zero_add,wnd,List.drop_append_of_le_length (by omega),List.take_append_of_le_length (by rw [List.length_drop];omega),List.take_of_length_le (by rw [List.length_drop];omega)]
   have e2:wnd vs 0 (min vs.length (xs.length+vs.length-k))=vs:=by
    rw [wnd,List.drop_zero,List.take_of_length_le (by omega)]
   rw [e1,e2,Qpj (by omega) (by omega)]
   rfl
end Go.Proofs.YtallpjhkmcgpoaaGreat.V
end
section
namespace Go.Proofs.YtallpjhkmcgpoaaGreat.V
open Go
section
def cfW (call:QaM) (f:Nat) (caps:List AV) (xs:Els) (i j:Nat):Int:=match call f ([(xs.getD i []).headD .undef,(xs.getD j []).headD .undef]++caps) with
 | some ([.i .i64 r],_)=>r
 | _=>0
def Qd2:AV→Bool
 | .i _ _ | .b _ | .s _=>true
 | _=>false
structure QiB (call:QaM) (f:Nat) (caps:List AV) (xs:Els):Prop where
 len:xs.length<140737488355328
 flat:∀ i,i<xs.length→∃ c,xs.getD i []=[c]∧Qd2 c=true
 ro:(QaJ caps).all (fun R => !R.own)=true
 cells:caps.all (fun v=>(Qlm v).length == (Qft v).length)=true
 calls:∀ i j,i<xs.length→j<xs.length→call f ([(xs.getD i []).headD .undef,(xs.getD j []).headD .undef]++caps)=some ([.i .i64 (cfW call f caps xs i j)],List.replicate (QaJ caps).length none)
 irr:∀ i,i<xs.length→0≤cfW call f caps xs i i
 tr:∀ i j k,i<xs.length→j<xs.length→k<xs.length→cfW call f caps xs i j<0→cfW call f caps xs j k<0→cfW call f caps xs i k<0
 ntr:∀ i j k,i<xs.length→j<xs.length→k<xs.length→0≤cfW call f caps xs i j→0≤cfW call f caps xs j k→0≤cfW call f caps xs i k
 tot:∀ i j,i<xs.length→j<xs.length→0≤cfW call f caps xs i j→0≤cfW call f caps xs j i→i=j
def srt (cf:Nat→Nat→Int) (n:Nat):List Nat:=(List.range n).mergeSort fun i j => !decide (cf j i<0)
theorem QfG {cf cf':Nat→Nat→Int} {n:Nat} (h:∀ i j,i<n→j<n→cf i j=cf' i j):srt cf n=srt cf' n:=by
 have:=List.map_mergeSort (r:=fun i j => !decide (cf j i<0)) (s:=fun i j => !decide (cf' j i<0)) (f:=id) (l:=List.range n) (fun a ha b hb=>by
  simp only [id];rw [h b a (List.mem_range.1 hb) (List.mem_range.1 ha)])
 simpa [srt] using this
theorem QlH {cf:Nat→Nat→Int} {n:Nat} : srt cf n=((List.finRange n).mergeSort fun i j => !decide (cf j.val i.val<0)).map (·.val):=by
 have:=List.map_mergeSort (r:=fun i j:Fin n => !decide (cf j.val i.val<0)) (s:=fun i j => !decide (cf j i<0)) (f:=fun i:Fin n=>i.val) (l:=List.finRange n) (fun a _ b _=>rfl)
 rw [this,srt]
 congr 1
 apply List.ext_getElem
 ·simp
 ·intro i h1 h2;simp
open Classical in
noncomputable def Qg2 (call:QaM) (ds:List AV):Option Out:=match ds with
 | [.deep false false 1 xs, .fn f caps]=>if QiB call f caps xs then some ([],some ((srt (cfW call f caps xs) xs.length).map fun i=>xs.getD i [])::List.replicate (QaJ caps).length none) else none
 | _=>none
theorem QiB.mono {c c':QaM} (hc:∀ f ds out,c f ds=some out→c' f ds=some out) {f:Nat} {caps:List AV} {xs:Els} (h:QiB c f caps xs):QiB c' f caps xs∧∀ i j,i<xs.length→j<xs.length→cfW c f caps xs i j=cfW c' f caps xs i j:=by
 have e:∀ i j,i<xs.length→j<xs.length→cfW c f caps xs i j=cfW c' f caps xs i j:=fun i j hi hj=>by
  have h2:=hc _ _ _ (h.calls i j hi hj)
  conv=>rhs;unfold cfW
  rw [h2]
 exact ⟨⟨h.len,h.flat,h.ro,h.cells,fun i j hi hj=>by rw [←e i j hi hj];exact hc _ _ _ (h.calls i j hi hj),fun i hi=>by rw [←e i i hi hi];exact h.irr i hi,
  fun i j k hi hj hk=>by rw [←e i j hi hj, ←e j k hj hk, ←e i k hi hk];exact h.tr i j k hi hj hk,fun i j k hi hj hk=>by rw [←e i j hi hj, ←e j k hj hk, ←e i k hi hk];exact h.ntr i j k hi hj hk,
  fun i j hi hj=>by rw [←e i j hi hj, ←e j i hj hi];exact h.tot i j hi hj⟩,e⟩
theorem QkO (c c':QaM) (hc:∀ f ds out,c f ds=some out→c' f ds=some out) (ds:List AV) (out:Out) (h:Qg2 c ds=some out):Qg2 c' ds=some out:=by
 unfold Qg2 at h ⊢
 split at h
 ·rename_i xs f caps
  split at h
  ·rename_i hs
   obtain ⟨h1,h2⟩:=hs.mono hc
   rw [if_pos h1, ←h,QfG h2]
  ·cases h
 ·cases h
noncomputable def QoL:Ext:=⟨Qg2,QkO⟩
theorem Qsq:QoL.g=Qg2:=rfl
def QhH:AV→Value
 | .i k n => .int k n
 | .b x => .bool x
 | .s x => .string x
 | _=>undef
theorem Qpu {w:World} {B:Gh} {c:AV} {v:Value} (hc:Qd2 c=true) (h:QaR w B c v):v=QhH c:=by
 cases c <;> simp [Qd2] at hc <;> simpa [QaR,QhH] using h
theorem Qkf {c:AV} (hc:Qd2 c=true):(QhH c).oneCell'=true:=by cases c <;> simp [Qd2] at hc <;> rfl
theorem Qnq {w:World} {c:AV} (hc:Qd2 c=true):HV w c (QhH c) []:=by
 cases c <;> simp [Qd2] at hc
 ·exact ⟨rfl,rfl⟩
 ·exact ⟨rfl,rfl⟩
 ·exact ⟨rfl,rfl⟩
theorem HC.world {w w':World} {av:AV} {v:Value} {gs:List Gh} (h:HC w av v gs) (hB:∀ b m,Big w b m→Big w' b m)
 (hb:∀ (k:Nat) R G f ρ b,(Qft av)[k]? = some R→gs[k]? = some G→R.Key G f ρ b→w'.heap[b]? = w.heap[b]?):HC w' av v gs:=by
 cases av with
 | deep p bo sz xs =>
  obtain ⟨G,rfl,h1,h2⟩:=h
  refine ⟨G,rfl,h1.mono fun b o m _=>hB b m,h2.mono hB fun ρ f b hk=>hb 0 ⟨!bo,sz,0,xs⟩ G f ρ b rfl rfl ?_⟩
  unfold Qaj.Key;rw [Bool.not_not];exact hk
 | undef=>exact h.elim
 | nl sz=>exact h
 | _=>exact ⟨h.1,QaR.mono h.2 hB⟩
theorem HCs.args {w w':World} (hB:∀ b m,Big w b m→Big w' b m):∀ {cs:List AV} {vs:List Value} {gs:List Gh}, HCs w cs vs gs→cs.all (fun v=>(Qlm v).length == (Qft v).length)=true →
 (∀ (k:Nat) R G f ρ b,(QaJ cs)[k]? = some R→gs[k]? = some G→R.Key G f ρ b→w'.heap[b]? = w.heap[b]?)→HVs w' cs vs gs∧(QaJ cs).length=gs.length
 | [],vs,gs,h,_,_=>by obtain ⟨rfl,rfl⟩:=h;exact ⟨⟨rfl,rfl⟩,rfl⟩
 | c::cs,vs,gs,h,hf,hb=>by
  obtain ⟨v,vs',g1,g2,rfl,rfl,h1,h2⟩:=h
  rw [List.all_cons,Bool.and_eq_true,beq_iff_eq] at hf
  have hr:Qlm c=Qft c:=by
   cases c with
   | agg cs=>exact absurd h1.2 (by simp [QaR])
   | fn f cs=>exact absurd h1.2 (by simp [QaR])
   | _=>rfl
  have hl:(Qft c).length=g1.length:=by
   cases c with
   | deep p bo sz xs=>obtain ⟨G,rfl,_⟩:=h1;rfl
   | undef=>exact h1.elim
   | nl sz=>rw [h1.1];rfl
   | _=>rw [h1.1];rfl
  have e:QaJ (c::cs)=Qft c++QaJ cs:=by simp only [QaJ,List.flatMap_cons,hr]
  obtain ⟨i1,i2⟩:=HCs.args hB h2 hf.2 fun k R G f ρ b e1 e2 e3=>hb ((Qft c).length+k) R G f ρ b (by rw [e,List.getElem?_append_right (by omega)];simpa using e1) (by rw [List.getElem?_append_right (by omega),hl];simpa using e2) e3
  have h1':HC w' c v g1:=h1.world hB fun k R G f ρ b e1 e2 e3=>hb k R G f ρ b (by rw [e,List.getElem?_append_left (List.getElem?_eq_some_iff.1 e1).1];exact e1) (by rw [List.getElem?_append_left (List.getElem?_eq_some_iff.1 e2).1];exact e2) e3
  refine ⟨⟨v,vs',g1,g2,rfl,rfl, ?_,i1⟩,by rw [e,List.length_append,List.length_append,hl,i2]⟩
  cases c with
  | agg cs=>exact absurd h1.2 (by simp [QaR])
  | fn f cs=>exact absurd h1.2 (by simp [QaR])
  | _=>exact h1'
open Go.Sort Go.Shelf Go.Lib in
theorem QcC {α:Type} [Inhabited α] (enc:α→Value) (w:World) (g off m:Nat) (d:Array α) (os:Array Obj) (k:Nat) (hk:k<w.heap.size) :
 (sortWorld enc w g off m d os).heap[k]? = if g=k then (w.heap[k]?).map (onCells (Go.Sort.putCells enc off d)) else w.heap[k]? := by
 unfold sortWorld
 rw [heap_grow_old _ _ (by rw [Go.Sort.size_putRow];exact hk)]
 simp only [putRow,mapBlock,Array.getElem?_modify]
 rfl
open Go.Sort Go.Shelf Go.Lib in
theorem Qet {α:Type} [Inhabited α] (enc:α→Value) (w:World) (g off m:Nat) (d:Array α) (os:Array Obj) {b:Nat} {n:Nat×Bool} (h:Big w b n):Big (sortWorld enc w g off m d os) b n:=by
 obtain ⟨cur,e,fr,h1,h2,h3⟩:=h
 have hb:b<w.heap.size:=(Array.getElem?_eq_some_iff.1 h1).1
 have:=QcC enc w g off m d os b hb
 rw [h1] at this
 by_cases c:g=b
 ·rw [if_pos c] at this
  exact ⟨Go.Sort.putCells enc off d cur,e,fr,this,by simpa [Go.Sort.putCells] using h2,fun x=>by simpa [Go.Sort.putCells] using h3 x⟩
 ·rw [if_neg c] at this;exact ⟨cur,e,fr,this,h2,h3⟩
theorem Qnm {α:Type} {xs:List α} {i:Nat} {z:α} (h:i<xs.length):xs[i]? = some (xs.getD i z):=by
 rw [List.getD_eq_getElem?_getD,List.getElem?_eq_getElem h];rfl
theorem Qfx {ys:Els} (h:∀ el∈ys,∃ c,el=[c]∧Qd2 c=true) {s:Nat} {ro:Bool} {q:QaO} {s':Nat} {f:Bool} {zs:Els} (e:QaB s ro ys q=some (s',f,zs)):q=[]∧f=ro:=by
 cases q with
 | nil=>simp only [QaB,Option.some.injEq,Prod.mk.injEq] at e;exact ⟨rfl,e.2.1.symm⟩
 | cons p q =>
  obtain ⟨i,c⟩:=p
  obtain ⟨p,bo,sz,ws,hc,_⟩:=QaZ e
  obtain ⟨el,h1,h2⟩:=Qas hc
  obtain ⟨c',rfl,h3⟩:=h el (List.mem_of_getElem? h1)
  cases c with
  | zero=>simp only [List.getElem?_cons_zero,Option.some.injEq] at h2;subst h2;cases h3
  | succ c=>simp at h2
theorem QhM {S:Nat→Prop} {w w':World} {xs ys:Els} {rts:List Qaj} {G:Gh} {g1:List Gh} (hl:ys.length=xs.length) (hf:∀ el∈ys,∃ c,el=[c]∧Qd2 c=true) (ht:Qbg w' false 1 G ys)
 (size:w.heap.size≤w'.heap.size) (block:∀ b,b<w.heap.size→(∀ o,G []≠some (b,o))→w'.heap[b]? = w.heap[b]?) (big:∀ b n,Big w b n→Big w' b n) (os:w'.os=w.os) (tape:w'.tape=w.tape) (output:w'.output=w.output) (drawn:w.drawn≤w'.drawn) :
 Qzh S (⟨true,1,0,xs⟩::rts) (G::g1) w ([],some ys::List.replicate rts.length none) (.tuple #[]) w' [] [] (fun _=>G) where
 val:=rfl
 res:=⟨rfl,rfl⟩
 blen:=by simp
 back:=fun k R G' zs e1 e2 e3=>by
  cases k with
  | zero =>
   simp only [List.getElem?_cons_zero,Option.some.injEq] at e1 e2 e3
   subst e1;subst e2;subst e3
   exact ⟨rfl,rfl,hl,ht⟩
  | succ k =>
   simp only [List.getElem?_cons_succ,List.getElem?_replicate] at e3
   split at e3 <;> cases e3
 size:=size
 block:=fun b hb hno=>block b hb fun o e=>hno 0 [] ⟨⟨true,1,0,xs⟩,G,rfl,rfl,1,xs,o,rfl,e⟩
 big:=big
 os:=os
 tape:=tape
 output:=output
 drawn:=drawn
 rown:=fun k ρ b ⟨R,G',e1,_⟩=>by simp [QaJ] at e1
 rsta:=fun k ρ b ⟨R,G',e1,_⟩=>by simp [QaJ] at e1
 bown:=fun k ρ b ⟨R,zs,e1,e2,s,ws,o,h1,h2⟩=>by
  cases k with
  | zero =>
   simp only [List.getElem?_cons_zero,Option.some.injEq] at e1 e2
   subst e1;subst e2
   obtain ⟨rfl,_⟩:=Qfx hf h1
   exact .inr ⟨0,[],⟨true,1,0,xs⟩,G,rfl,rfl,1,xs,o,rfl,h2⟩
  | succ k =>
   simp only [List.getElem?_cons_succ,List.getElem?_replicate] at e2
   split at e2 <;> cases e2
 bsta:=fun k ρ b ⟨R,zs,e1,e2,s,ws,o,h1,h2⟩=>by
  cases k with
  | zero =>
   simp only [List.getElem?_cons_zero,Option.some.injEq] at e1 e2
   subst e1;subst e2
   obtain ⟨rfl,h⟩:=Qfx hf h1
   cases h
  | succ k =>
   simp only [List.getElem?_cons_succ,List.getElem?_replicate] at e2
   split at e2 <;> cases e2
 rinj:=fun k ρ k' ρ' b ⟨R,G',e1,_⟩=>by simp [QaJ] at e1
 binj:=fun k ρ k' ρ' b ⟨R,zs,e1,e2,s,ws,o,h1,h2⟩ ⟨R',zs',e1',e2',s',ws',o',h1',h2'⟩=>by
  have h0:∀ {k:Nat} {zs:Els}, (some ys::List.replicate rts.length (none:Option Els))[k]? = some (some zs)→k=0∧zs=ys:=fun {k zs} e=>by
   cases k with
   | zero=>simp only [List.getElem?_cons_zero,Option.some.injEq] at e;exact ⟨rfl,e.symm⟩
   | succ k =>
    simp only [List.getElem?_cons_succ,List.getElem?_replicate] at e
    split at e <;> cases e
  obtain ⟨rfl,rfl⟩:=h0 e2
  obtain ⟨rfl,rfl⟩:=h0 e2'
  simp only [List.getElem?_cons_zero,Option.some.injEq] at e1 e1'
  subst e1;subst e1'
  exact ⟨rfl,(Qfx hf h1).1.trans (Qfx hf h1').1.symm⟩
 xinj:=fun k ρ k' ρ' b ⟨R,G',e1,_⟩=>by simp [QaJ] at e1
theorem QkI {W w':World} (h1:W.heap.size≤w'.heap.size) (h2:∀ b,b<W.heap.size→w'.heap[b]? = W.heap[b]?) (h3:w'.os=W.os) (h4:w'.tape=W.tape) (h5:w'.output=W.output) (h6:W.drawn≤w'.drawn) :
 ∃ q os,w'=Go.Sort.grow (W.drewN q) os:=by
 refine ⟨w'.drawn-W.drawn,w'.heap.extract W.heap.size, ?_⟩
 have e1:w'.heap=W.heap++w'.heap.extract W.heap.size:=by
  apply Array.ext_getElem?
  intro i
  rw [Array.getElem?_append]
  split
  ·rename_i h;exact h2 i h
  ·rename_i h
   rw [Array.getElem?_extract]
   split
   ·congr 1;omega
   ·rename_i h'
    rw [Array.getElem?_eq_none];simp at h';omega
 have e2:w'.drawn=W.drawn+(w'.drawn-W.drawn):=by omega
 obtain ⟨wh,wt,wd,wo,wp⟩:=w'
 simp only at h3 h4 h5 e1 e2
 unfold Go.Sort.grow World.drewN
 simp only [World.mk.injEq]
 exact ⟨e1,h4,e2,h3,h5⟩
open Go.Sort Go.Shelf Go.Lib in
theorem QoK {P:Program} {ρ:Ren} (L:SlLaysF.n6 P ρ) (L0:SlLaysF0.n6 P ρ) (hf:QbM P (ρ.f 6)=true) {call:QaM} (hc:∀ f ds out,call f ds=some out→QbM P f=true∧Ctr P f ds out) {ds:List AV} {out:Out} (h:Qg2 call ds=some out) :
 QbM P (ρ.f 6)=true∧Ctr P (ρ.f 6) ds out:=by
 refine ⟨hf, ?_⟩
 unfold Qg2 at h
 split at h
 case h_2=>cases h
 rename_i xs f caps
 split at h
 case isFalse=>cases h
 rename_i hs
 injection h with h;subst h
 intro w S args gs hS hv hro hown hinj
 obtain ⟨v0,vs0,g0,gs1,rfl,rfl,hv0,v1,vs1,g1,g2,rfl,rfl,hv1,rfl,rfl⟩:=hv
 obtain ⟨G,rfl,hd,ht⟩:=hv0
 obtain ⟨a,rfl,hcs⟩:=hv1
 have hrts:QaJ [.deep false false 1 xs, .fn f caps]=⟨true,1,0,xs⟩::QaJ caps:=by
  have this:∀ cs:List AV,∀ {vs gs}, HCs w cs vs gs→cs.flatMap Qft=cs.flatMap Qlm:=fun cs=>by
   induction cs with
   | nil=>intros;rfl
   | cons c cs ih =>
    intro vs gs h
    obtain ⟨v,vs',g1,g2,_,_,h1,h2⟩:=h
    rw [List.flatMap_cons,List.flatMap_cons,ih h2]
    congr 1
    cases c with
    | agg cs=>exact absurd h1.2 (by simp [QaR])
    | fn f cs=>exact absurd h1.2 (by simp [QaR])
    | _=>rfl
  simp only [QaJ,List.flatMap_cons,List.flatMap_nil,List.append_nil]
  show ⟨!false,1,0,xs⟩::(caps.flatMap Qft)=_
  rw [this caps hcs];rfl
 rw [List.append_nil,show [G]++g1=G::g1 from rfl] at *
 rw [hrts] at hro hown hinj ⊢
 have hnoc:∀ (k:Nat) R G' ρ' b,(QaJ caps)[k]? = some R→¬R.Key G' false ρ' b:=fun k R G' ρ' b e1 ⟨s,ys,o,h1,h2⟩=>by
  have:=List.all_eq_true.1 hs.ro R (List.mem_of_getElem? e1)
  have hr:R.own=false:=by simpa using this
  rw [hr] at h1
  have:=Qcv ρ' h1
  cases this
 have hflat:∀ el∈xs,∃ c,el=[c]∧Qd2 c=true:=fun el he=>by
  obtain ⟨i,hi,e⟩:=List.getElem_of_mem he
  obtain ⟨c,h1,h2⟩:=hs.flat i hi
  rw [List.getD_eq_getElem?_getD,List.getElem?_eq_getElem hi,e] at h1
  exact ⟨c,h1,h2⟩
 have hel:∀ i,i<xs.length→∃ c,xs[i]? = some [c]∧Qd2 c=true∧(xs.getD i []).headD .undef=c:=fun i hi=>by
  obtain ⟨c,h1,h2⟩:=hs.flat i hi
  exact ⟨c,by rw [Qnm (z:=[]) hi,h1],h2,by rw [h1];rfl⟩
 generalize hn:xs.length=n at *
 have hys:((srt (cfW call f caps xs) n).map fun i=>xs.getD i []).length=n:=by simp [srt]
 have hyf:∀ el∈((srt (cfW call f caps xs) n).map fun i=>xs.getD i []),∃ c,el=[c]∧Qd2 c=true:=fun el he=>by
  obtain ⟨i,hi,rfl⟩:=List.mem_map.1 he
  have hi':i<n:=by simpa [srt] using hi
  exact hs.flat i (by rw [hn];exact hi')
 by_cases h0:n=0
 ·have hx:xs=[]:=List.eq_nil_of_length_eq_zero (hn.trans h0)
  have hv0:∃ p cap,v0 = .slice p 0 cap:=by
   unfold HdR at hd
   split at hd
   ·obtain ⟨_,x,h⟩:=hd;exact ⟨x,0,h⟩
   ·obtain ⟨cap,h,_⟩:=hd;rw [h0] at h;exact ⟨_,cap,h⟩
   ·rename_i h _;cases h
   ·exact hd.elim
  obtain ⟨p,cap,rfl⟩:=hv0
  refine (AnyF.slices_SortFunc_none L0 p cap (.func (.func f) #[] a) w).mono ?_
  rintro e w' ⟨rfl,rfl⟩
  refine ⟨_,[],[],fun _=>G,rfl,QhM (hys.trans hn.symm) hyf ?_ (Nat.le_refl _) (fun _ _ _=>rfl) (fun _ _ h=>h) rfl rfl rfl (Nat.le_refl _)⟩
  have:((srt (cfW call f caps xs) n).map fun i=>xs.getD i [])=xs:=by rw [hx];exact List.eq_nil_of_length_eq_zero (by rw [←hx,hys,h0])
  rw [this];exact ht
 ·cases hG:G [] with
  | none =>
   rw [hG] at hd
   exact absurd hd.1 h0
  | some bo =>
   obtain ⟨b,o⟩:=bo
   rw [hG] at hd
   obtain ⟨cap,rfl,hcap,hbig⟩:=hd
   obtain ⟨_,htop⟩:=ht.top
   rw [hG] at htop
   obtain ⟨cur,⟨ety,fr,hcur,hfr⟩,hcell⟩:=htop
   obtain ⟨rfl,hone⟩:=hfr rfl
   have hb:b<w.heap.size:=(Array.getElem?_eq_some_iff.1 hcur).1
   have hpos:0<n:=by omega
   haveI:Inhabited (Fin n):=⟨⟨0,hpos⟩⟩
   let enc:Fin n→Value:=fun i=>QhH ((xs.getD i.val []).headD .undef)
   have hcv:∀ i,i<n→cur[o+i]? = some (QhH ((xs.getD i []).headD .undef)):=fun i hi=>by
    obtain ⟨c,h1,h2,h3⟩:=hel i (by omega)
    obtain ⟨v,g1,_,g3⟩:=hcell i 0 c (by unfold QW;rw [h1];rfl)
    rw [h3, ←Qpu h2 g3,show o+i=o+i * 1+0 by omega]
    exact g1
   have hds:((List.finRange n).toArray).size=n:=by simp
   have hH:Holds enc w b o (List.finRange n).toArray:=by
    intro j hj
    rw [hds] at hj
    have e1:(List.finRange n).toArray[j]! = ⟨j,hj⟩:=by
     rw [getElem!_pos _ j (by rw [hds];exact hj)];simp
    refine ⟨?_, ?_⟩
    ·unfold World.cell?
     simp only [hcur,e1]
     exact hcv j hj
    ·unfold World.frozen?
     simp only [hcur]
     simp
   have hO:OneCell enc:=fun x=>by
    obtain ⟨c,h1,h2,h3⟩:=hel x.val x.isLt
    show (QhH ((xs.getD x.val []).headD .undef)).oneCell'=true
    rw [h3];exact Qkf h2
   have hlim:(List.finRange n).toArray.size<4611686018427387904:=by rw [hds];have:=hs.len;omega
   let cf:Fin n→Fin n→Int:=fun i j=>cfW call f caps xs i.val j.val
   have lt:∀ x y:Fin n,ltOf cf x y=decide (cfW call f caps xs x.val y.val<0):=fun _ _=>rfl
   have hlt:∀ x:Fin n,x.val<xs.length:=fun x=>by rw [hn];exact x.isLt
   have hSW:SWO (ltOf cf):=⟨fun x=>by rw [lt,decide_eq_false_iff_not];have:=hs.irr x.val (hlt x);omega,
    fun x y z h1 h2=>by rw [lt,decide_eq_true_eq] at *; exact hs.tr _ _ _ (hlt x) (hlt y) (hlt z) h1 h2,
    fun x y z h1 h2=>by rw [lt,decide_eq_false_iff_not] at *; have:=hs.ntr _ _ _ (hlt x) (hlt y) (hlt z) (by omega) (by omega);omega⟩
   have hT:∀ x y,(ltOf cf) x y=false→(ltOf cf) y x=false→x=y:=fun x y h1 h2=>by
    rw [lt,decide_eq_false_iff_not] at *
    exact Fin.ext (hs.tot _ _ (hlt x) (hlt y) (by omega) (by omega))
   have hbS:¬S b:=hown 0 [] b ⟨⟨true,1,0,xs⟩,G,rfl,rfl,1,xs,o,rfl,hG⟩
   have hfo:=(hc _ _ _ (hs.calls 0 0 (by omega) (by omega))).1
   have hcmp:CmpLays1 P f a enc cf b o (List.finRange n).toArray.size w:=by
    intro m os dk hdk x y
    have hBg:∀ b' m',Big w b' m'→Big (sortWorld enc w b o m dk os) b' m':=fun b' m' h=>Qet enc w b o m dk os h
    obtain ⟨hA,hAl⟩:=HCs.args hBg hcs hs.cells fun k R G' f' ρ' b' e1 e2 e3=>by
     have hk:KOf (⟨true,1,0,xs⟩::QaJ caps) (G::g1) f' (k+1) ρ' b':=⟨R,G',by simpa using e1,by simpa using e2,e3⟩
     cases f' with
     | false=>exact absurd e3 (hnoc k R G' ρ' b' e1)
     | true =>
      have hSb:=hro _ _ _ hk
      have hb':=hS _ hSb
      have hne:b≠b':=fun e=>hbS (by rw [e];exact hSb)
      rw [QcC _ _ _ _ _ _ _ _ hb',if_neg hne]
    have hC:=(hc _ _ _ (hs.calls x.val y.val (hlt x) (hlt y))).2
    obtain ⟨cx,x1,x2,x3⟩:=hel x.val x.isLt
    obtain ⟨cy,y1,y2,y3⟩:=hel y.val y.isLt
    have ex:enc x=QhH cx:=by show QhH _=_;rw [x3]
    have ey:enc y=QhH cy:=by show QhH _=_;rw [y3]
    rw [x3,y3] at hC
    have hrt:QaJ ([cx,cy]++caps)=QaJ caps:=by
     have e:∀ {c:AV}, Qd2 c=true→Qlm c=[]:=fun {c} h=>by cases c <;> simp [Qd2] at h <;> rfl
     simp only [QaJ,List.cons_append,List.nil_append,List.flatMap_cons,e x2,e y2]
    have hsz:w.heap.size≤(sortWorld enc w b o m dk os).heap.size:=by unfold sortWorld;rw [size_grow,Go.Sort.size_putRow];exact Nat.le_add_right _ _
    have:=hC (sortWorld enc w b o m dk os) S ([QhH cx,QhH cy]++a.toList) g1 (fun b' h=>Nat.lt_of_lt_of_le (hS b' h) hsz) ⟨_,_,[],g1,rfl,rfl,Qnq x2,_,_,[],g1,rfl,rfl,Qnq y2,hA⟩
     (fun k ρ' b' ⟨R,G',e1,e2,e3⟩=>by rw [hrt] at e1;exact hro (k+1) ρ' b' ⟨R,G',by simpa using e1,by simpa using e2,e3⟩)
     (fun k ρ' b' ⟨R,G',e1,e2,e3⟩=>by rw [hrt] at e1;exact absurd e3 (hnoc k R G' ρ' b' e1))
     (fun k ρ' k' ρ'' b' ⟨R,G',e1,e2,e3⟩=>by rw [hrt] at e1;exact absurd e3 (hnoc k R G' ρ' b' e1))
    have harg:([QhH cx,QhH cy]++a.toList).toArray = #[enc x,enc y]++a:=by rw [ex,ey];simp
    rw [harg] at this
    refine this.mono ?_
    rintro e w' ⟨v,vs,gs',gb,rfl,hp⟩
    obtain ⟨v2,vs2,q1,q2,rfl,rfl,h1,rfl,rfl⟩:=hp.res
    have hv2:v2 = .int .i64 (cfW call f caps xs x.val y.val):=by
     have:HC w' (.i .i64 (cfW call f caps xs x.val y.val)) v2 q1:=h1
     have:=this.2
     simpa [QaR] using this
    refine ⟨by rw [hp.val,hv2];rfl, ?_⟩
    exact QkI hp.size (fun b' hb'=>hp.block b' hb' fun k ρ' ⟨R,G',e1,e2,e3⟩=>by rw [hrt] at e1;exact hnoc k R G' ρ' b' e1 e3) hp.os hp.tape hp.output hp.drawn
   have R:=Any.slices_SortFunc_total L enc hO cf hSW f a b o cap (List.finRange n).toArray w (fun args w=>QdG hfo args w) hcmp hH hb hlim hT
   rw [hds] at R
   refine R.mono ?_
   clear R hcmp hH
   rintro e w' ⟨rfl,n',os,rfl⟩
   rw [show (List.finRange n).toArray.toList=List.finRange n from rfl]
   have hM:((List.finRange n).mergeSort fun x y => !ltOf cf y x).map (·.val)=srt (cfW call f caps xs) n:=by rw [QlH];rfl
   have hMl:((List.finRange n).mergeSort fun x y => !ltOf cf y x).length=n:=by simp
   generalize ((List.finRange n).mergeSort fun x y => !ltOf cf y x)=M at hM hMl
   have hh:=QcC enc w b o n' M.toArray os b hb
   rw [if_pos rfl,hcur] at hh
   refine ⟨_,[],[],fun _=>G,rfl,QhM (hys.trans hn.symm) hyf ?_ ?_ (fun b' hb' hne => ?_) (fun b' m' h=>Qet enc w b o n' M.toArray os h) rfl rfl rfl ?_⟩
   ·refine Qbg.mk' ⟨fun i el he => ?_, ?_⟩ (fun i c p bo sz ys hc' => ?_)
    ·obtain ⟨c,rfl,_⟩:=hyf el (List.mem_of_getElem? he);rfl
    ·rw [hG]
     refine ⟨_,⟨ety,(0,0),hh,fun _=>⟨rfl,fun v hv => ?_⟩⟩,fun i c cell hc' => ?_⟩
     ·obtain ⟨k,hk,e⟩:=List.getElem_of_mem hv
      simp only [Go.Sort.putCells,Array.getElem_toList,Array.getElem_mapIdx] at e
      split at e
      ·rw [←e];exact hO _
      ·rw [←e];exact hone _ (by simp)
     ·obtain ⟨el,h1,h2⟩:=Qas hc'
      obtain ⟨c',rfl,hfl⟩:=hyf el (List.mem_of_getElem? h1)
      cases c with
      | succ c=>simp at h2
      | zero =>
       simp only [List.getElem?_cons_zero,Option.some.injEq] at h2;subst h2
       have hi:i<n:=by have:=(List.getElem?_eq_some_iff.1 h1).1;omega
       rw [List.getElem?_map, ←hM,List.getElem?_map] at h1
       obtain ⟨mi,hmi⟩:∃ mi,M[i]? = some mi:=⟨_,List.getElem?_eq_getElem (by omega)⟩
       rw [hmi] at h1
       simp only [Option.map_some,Option.some.injEq] at h1
       refine ⟨QhH c', ?_,Qkf hfl, ?_⟩
       ·have hoi:o+i<cur.size:=by
         have:=hcv i hi
         exact (Array.getElem?_eq_some_iff.1 this).1
        simp only [Go.Sort.putCells,Array.getElem?_mapIdx]
        rw [show o+i * 1+0=o+i by omega,Array.getElem?_eq_getElem hoi,Option.map_some,if_pos ⟨by omega,by simp [hMl];omega⟩,show o+i-o=i by omega,getElem!_pos _ i (by simp [hMl];omega)]
        have:M.toArray[i]'(by simp [hMl];omega)=mi:=by
         have:=List.getElem?_eq_getElem (l:=M) (i:=i) (by omega)
         rw [hmi] at this;simpa using (Option.some.inj this).symm
        rw [this]
        show some (QhH ((xs.getD mi.val []).headD .undef))=_
        rw [h1];rfl
       ·cases c' <;> simp [Qd2] at hfl <;> rfl
    ·obtain ⟨el,h1,h2⟩:=Qas hc'
     obtain ⟨c',rfl,hfl⟩:=hyf el (List.mem_of_getElem? h1)
     cases c with
     | succ c=>simp at h2
     | zero=>simp only [List.getElem?_cons_zero,Option.some.injEq] at h2;subst h2;cases hfl
   ·unfold sortWorld;rw [size_grow,Go.Sort.size_putRow];exact Nat.le_add_right _ _
   ·rw [QcC _ _ _ _ _ _ _ _ hb',if_neg (fun e=>hne o (by rw [hG,e]))]
   ·exact Nat.le_add_right _ _
def cfP {α:Type} (z:α) (c:α→α→Option Int) (l:List α) (i j:Nat):Int:=(c (l.getD i z) (l.getD j z)).getD 0
def Qpn {α:Type} (z:α) (c:α→α→Option Int) (l:List α):Bool:=decide (l.length<140737488355328) && (List.range l.length).all fun i=>decide (0≤cfP z c l i i) && (List.range l.length).all fun j=>(c (l.getD i z) (l.getD j z)).isSome &&
 (decide (0≤cfP z c l i j→0≤cfP z c l j i→i=j) && (List.range l.length).all fun k=>decide (cfP z c l i j<0→cfP z c l j k<0→cfP z c l i k<0) && decide (0≤cfP z c l i j→0≤cfP z c l j k→0≤cfP z c l i k))
def QkN {α:Type} (z:α) (c:α→α→Option Int) (l:List α):Option (List α):=if Qpn z c l=true then some ((srt (cfP z c l) l.length).map fun i=>l.getD i z) else none
theorem Qfy {n:Nat} {p:Nat→Nat→Prop} (hm:∀ i k k',k≤k'→p i k→p i k') (h:∀ i,i<n→∃ k,p i k):∃ k,∀ i,i<n→p i k:=by
 induction n with
 | zero=>exact ⟨0,fun i hi=>absurd hi (Nat.not_lt_zero _)⟩
 | succ n ih =>
  obtain ⟨k,hk⟩:=ih fun i hi=>h i (by omega)
  obtain ⟨k',hk'⟩:=h n (by omega)
  refine ⟨max k k',fun i hi => ?_⟩
  rcases Nat.lt_or_ge i n with c|c
  ·exact hm i k _ (Nat.le_max_left ..) (hk i c)
  ·obtain rfl:i=n:=by omega
   exact hm i k' _ (Nat.le_max_right ..) hk'
theorem QlL {E:Env} {f lit:Nat} (h0:E.ext f=some QoL) {α:Type} {e:α→List AV} {z:α} {c:α→α→Option Int} {caps:List AV} (hfl:∀ x,∃ a,e x=[a]∧Qd2 a=true) (hro:(QaJ caps).all (fun R => !R.own)=true) (hce:caps.all (fun v=>(Qlm v).length == (Qft v).length)=true)
 {l r:List α} (H:QkN z c l=some r) (hcall:∀ x y v,c x y=some v→Qao E lit ([(e x).headD .undef,(e y).headD .undef]++caps)=some ([.i .i64 v],List.replicate (QaJ caps).length none)) :
 Qao E f [.deep false false 1 (l.map e), .fn lit caps]=some ([],some (r.map e)::List.replicate (QaJ caps).length none):=by
 unfold QkN at H
 split at H
 case isFalse=>cases H
 rename_i hg
 injection H with H;subst H
 simp only [Qpn,Bool.and_eq_true,decide_eq_true_eq,List.all_eq_true,List.mem_range] at hg
 obtain ⟨hlen,hg⟩:=hg
 have hgd:∀ i,i<l.length→(l.map e).getD i []=e (l.getD i z):=fun i hi=>by
  rw [List.getD_eq_getElem?_getD,List.getD_eq_getElem?_getD,List.getElem?_map,List.getElem?_eq_getElem hi];rfl
 have hk:∃ k,∀ i,i<l.length→∀ j,j<l.length→Qch E k lit ([((l.map e).getD i []).headD .undef,((l.map e).getD j []).headD .undef]++caps)=some ([.i .i64 (cfP z c l i j)],List.replicate (QaJ caps).length none):=by
  refine Qfy (fun i k k' hle h j hj=>QcE E hle _ _ _ (h j hj)) fun i hi=>Qfy (fun j k k' hle h=>QcE E hle _ _ _ h) fun j hj => ?_
  obtain ⟨_,h2⟩:=hg i hi
  obtain ⟨h3,_⟩:=h2 j hj
  obtain ⟨v,hv⟩:=Option.isSome_iff_exists.1 h3
  obtain ⟨k,hk⟩:=Qe7 (hcall _ _ v hv)
  refine ⟨k, ?_⟩
  rw [hgd i hi,hgd j hj,hk]
  simp only [cfP,hv,Option.getD_some]
 obtain ⟨k,hk⟩:=hk
 have hcf:∀ i j,i<l.length→j<l.length→cfW (Qch E k) lit caps (l.map e) i j=cfP z c l i j:=fun i j hi hj=>by
  unfold cfW
  rw [hk i hi j hj]
 have hs:QiB (Qch E k) lit caps (l.map e):=by
  refine ⟨by rw [List.length_map];exact hlen,fun i hi => ?_,hro,hce,fun i j hi hj => ?_,fun i hi => ?_,fun i j m hi hj hm => ?_,fun i j m hi hj hm => ?_,fun i j hi hj => ?_⟩ <;> rw [List.length_map] at *
  ·rw [hgd i hi];exact hfl _
  ·rw [hcf i j hi hj];exact hk i hi j hj
  ·rw [hcf i i hi hi];exact (hg i hi).1
  ·rw [hcf i j hi hj,hcf j m hj hm,hcf i m hi hm];exact (((hg i hi).2 j hj).2.2 m hm).1
  ·rw [hcf i j hi hj,hcf j m hj hm,hcf i m hi hm];exact (((hg i hi).2 j hj).2.2 m hm).2
  ·rw [hcf i j hi hj,hcf j i hj hi];exact ((hg i hi).2 j hj).2.1
 refine Qoc (k:=k) h0 ?_
 rw [Qsq]
 simp only [Qg2]
 rw [if_pos hs,List.length_map,QfG hcf,List.map_map]
 congr 2
 congr 1
 congr 1
 refine List.map_congr_left fun i hi => ?_
 exact hgd i (by simpa [srt] using hi)
end
end Go.Proofs.YtallpjhkmcgpoaaGreat.V
end
