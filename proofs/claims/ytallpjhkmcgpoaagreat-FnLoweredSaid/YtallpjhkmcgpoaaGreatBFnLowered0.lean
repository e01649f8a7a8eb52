/- FnLowered: VA VB VC VD VE VF VG VH VI VJ VK VL VM VN VO VP VQ VR VS VT VU VV. -/
import Derived.Calls
import Derived.Orders
import Derived.Laws.Cells
import Derived.Laws.CopyRow
import Derived.Tactics
import Derived.Laws.StructEq
import Derived.Great.FillDense
import Derived.Lib.AppendStr
import Derived.Laws.BytesArg
set_option linter.all false
set_option maxRecDepth 100000
set_option maxHeartbeats 8000000
section
namespace Go.Proofs.YtallpjhkmcgpoaaGreat.V
open Go
section
abbrev QaO:=List (Nat×Nat)
inductive AV where
 | undef
 | mb
 | b (x:Bool)
 | i (k:IntKind) (n:Int)
 | s (x:ByteArray)
 | nl (sz:Nat)
 | fn (f:Nat) (caps:List AV)
 | agg (cs:List AV)
 | tup (vs:List AV)
 | deep (p bo:Bool) (sz:Nat) (xs:List (List AV))
 | slc (r:Nat) (q:QaO) (pv sz off len:Nat)
 | ptr (r:Nat) (q:QaO) (pv i c:Nat)
 | vp (x c:Nat)
 | cv (k r off sz n:Nat)
 | bx (cs:List AV) (c:Nat)
 deriving Inhabited
abbrev Els:=List (List AV)
structure Qaj where
 own:Bool
 sz:Nat
 pv:Nat
 xs:Els
abbrev Tm:=Nat→AV
abbrev Rs:=Nat→Option Qaj
def up' {α:Type} (f:Nat→α) (k:Nat) (v:α):Nat→α:=fun x=>if x=k then v else f x
theorem Q6 {α:Type} (f:Nat→α) (k:Nat) (v:α):up' f k v k=v:=if_pos rfl
theorem Qaz {α:Type} (f:Nat→α) {k x:Nat} (v:α) (h:x≠k):up' f k v x=f x:=if_neg h
structure St where
 tm:Tm
 rs:Rs
 nx:Nat
inductive Ex where
 | normal
 | exit (id:Nat)
 | ret
 deriving DecidableEq
abbrev Out:=List AV×List (Option Els)
abbrev Qgh:=Ex→St→Option Out
abbrev QaM:=Nat→List AV→Option Out
def QW (xs:Els) (i c:Nat):Option AV:=(xs[i]?).bind fun el=>el[c]?
def QaB:Nat→Bool→Els→QaO→Option (Nat×Bool×Els)
 | sz,ro,xs,[]=>some (sz,ro,xs)
 | _,ro,xs,(i,c)::q =>
  match QW xs i c with
  | some (.deep _ bo sz' ys)=>QaB sz' (ro || bo) ys q
  | _=>none
def QaY (xs:Els) (i c:Nat) (vs:List AV):Els :=
 match xs[i]? with
 | some el=>xs.set i (el.take c++vs++el.drop (c+vs.length))
 | none=>xs
def QbK:Els→QaO→(Els→Els)→Els
 | xs,[],g=>g xs
 | xs,(i,c)::q,g =>
  match QW xs i c with
  | some (.deep p bo sz ys)=>QaY xs i c [.deep p bo sz (QbK ys q g)]
  | _=>xs
def Qcb (xs:Els) (q:QaO) (i c:Nat):Els:=QbK xs q fun ys=>QaY ys i c [.undef]
def Qc2:QaO→Option (QaO×Nat×Nat)
 | []=>none
 | [(i,c)]=>some ([],i,c)
 | p::q=>(Qc2 q).map fun (q',i,c)=>(p::q',i,c)
def Qaj.arr (R:Qaj) (q:QaO) (pv:Nat):Option (Nat×Bool×Els) :=
 match q with
 | []=>some (R.sz, !R.own,R.xs)
 | p::q=>if pv=R.pv then QaB R.sz (!R.own) R.xs (p::q) else none
def QcV (rs:Rs) (r:Nat) (q:QaO) (pv:Nat):Option (Qaj×Nat×Bool×Els) :=
 (rs r).bind fun R=>(R.arr q pv).map fun x=>(R,x)
def wnd (xs:Els) (off len:Nat):Els:=(xs.drop off).take len
def AV.isDeep:AV→Bool
 | .deep .. => true
 | _=>false
def Qa7 (vs:List AV):Bool:=vs.any AV.isDeep
def Q8 (xs:Els):Bool:=xs.any Qa7
def QeP:AV→AV
 | .deep p _ sz xs => .deep p true sz xs
 | v=>v
def AV.cells:AV→List AV
 | .agg cs=>cs
 | v=>[v]
def QdE (r:Nat) (q:QaO) (pv i c:Nat):AV→AV
 | .deep false _ sz xs => .slc r (q++[(i,c)]) pv sz 0 xs.length
 | .deep true _ _ _ => .ptr r (q++[(i,c)]) pv 0 0
 | v=>v
def Qfl (r:Nat) (q:QaO) (pv i:Nat):Nat→List AV→List AV
 | _,[]=>[]
 | c,v::vs=>QdE r q pv i c v::Qfl r q pv i (c+1) vs
def Qjq (rs:Rs):AV→Option (AV×List Nat)
 | .b x=>some (.b x,[])
 | .i k n=>some (.i k n,[])
 | .s x=>some (.s x,[])
 | .nl sz=>some (.deep false false sz [],[])
 | .slc r q pv sz off len =>
  (QcV rs r q pv).bind fun (_,_,ro,ys) =>
   if ro then some (.deep false true sz (wnd ys off len),[])
   else match q with
    | []=>some (.deep false false sz (wnd ys off len),[r])
    | _::_=>none
 | _=>none
def Qdf (rs:Rs):List AV→Option (List AV×List Nat)
 | []=>some ([],[])
 | v::vs=>(Qjq rs v).bind fun (c,a)=>(Qdf rs vs).map fun (cs,asx)=>(c::cs,a++asx)
def kill (rs:Rs) (asx:List Nat):Rs:=fun r=>if r∈asx then none else rs r
inductive X where
 | t (n:Nat)
 | k (v:AV)
def X.ev (tm:Tm):X→AV
 | .t n=>tm n
 | .k v=>v
inductive I where
 | mv (x:X)
 | pick (c a b:X)
 | nilc (x:X)
 | bin (op:BinOp) (kd:Nat) (x y:X)
 | eqA (neg:Bool) (ks:List Nat) (x y:X)
 | un (op:UnOp) (x:X)
 | build (zero:List AV) (parts:List (Nat×Nat×X))
 | field (off:Nat) (n:Option Nat) (x:X)
 | ext (j:Nat) (x:X)
 | idxS (x j:X)
 | idxA (len sz:Nat) (n:Option Nat) (x j:X)
 | slS (x:X) (lo hi:Option X)
 | slR (sz:Nat) (x:X) (lo hi:Option X)
 | slM (sz:Nat) (x:X) (lo hi mx:Option X)
 | slC (sz:Nat) (x:X) (lo hi:Option X)
 | slX (sz:Nat) (k x hi:X)
 | len (isS:Bool) (x:X)
 | cap (x:X)
 | conv (k:IntKind) (x:X)
 | faddr (off:Nat) (x:X)
 | iaddr (sz:Nat) (x j:X)
 | mkfn (f:Nat) (caps:List X)
 | mm (mx:Bool) (xs:List X)
 | bts (x:X)
 | ovl (sz:Nat) (x y:X)
 | load (n:Option Nat) (a:X)
 | store (n:Nat) (a v:X)
 | box (n:Nat) (x:X)
 | boxK (x:X)
 | alloc (zero:List AV)
 | lit (sz len:Nat) (zero:List AV) (parts:List (Nat×X))
 | mks (sz by':Nat) (zero:List AV) (n:X)
 | app (sz by':Nat) (x y:X)
 | appZ (by':Nat) (zero:List AV) (k x y:X)
 | copy (sz:Nat) (x y:X)
 | copyK (sz:Nat) (x y:X)
 | clr (zero:List AV) (x:X)
 | call (f:Nat) (ms:List Bool) (args:List X)
 | callv (g:X) (ms:List Bool) (args:List X)
def QkF (op:BinOp) (x y:Int):Option Bool :=
 match op with
 | .eql=>some (decide (x=y)) | .neq=>some (!decide (x=y)) | .lss=>some (decide (x<y)) | .leq=>some (decide (x≤y)) | .gtr=>some (decide (y<x)) | .geq=>some (decide (y≤x))
 | _=>none
def QbD (op:BinOp) (k:IntKind) (x y:Int):Option AV :=
 match op with
 | .add=>some (.i k (k.wrap (x+y))) | .sub=>some (.i k (k.wrap (x-y))) | .mul=>some (.i k (k.wrap (x * y)))
 | .quo=>if y=0 then none else some (.i k (k.wrap (x.tdiv y)))
 | .rem=>if y=0 then none else some (.i k (x.tmod y))
 | .and=>some (.i k (k.wrap ((BitVec.ofInt k.bits x &&& BitVec.ofInt k.bits y).toNat:Nat)))
 | .or=>some (.i k (k.wrap ((BitVec.ofInt k.bits x ||| BitVec.ofInt k.bits y).toNat:Nat)))
 | .xor=>some (.i k (k.wrap ((BitVec.ofInt k.bits x ^^^ BitVec.ofInt k.bits y).toNat:Nat)))
 | op=>(QkF op x y).map .b
def QiA (op:BinOp) (k:IntKind) (x y:Int):Option AV :=
 if y<0 then none else match op with
 | .shl=>some (.i k (k.wrap (x * 2 ^ (min y.toNat k.bits))))
 | .shr=>some (.i k (x.fdiv (2 ^ (min y.toNat k.bits))))
 | _=>none
def QbC:List Nat→List AV→List AV→Option Bool
 | [],[],[]=>some true
 | 1::ks, .b x::xs, .b y::ys=>(QbC ks xs ys).map fun r=>decide (x=y) && r
 | 0::ks, .i k x::xs, .i k' y::ys=>if k=k' then (QbC ks xs ys).map fun r=>decide (x=y) && r else none
 | 2::ks, .s x::xs, .s y::ys=>(QbC ks xs ys).map fun r=>decide (x=y) && r
 | _,_,_=>none
def QbF:BinOp→Bool
 | .shl | .shr=>true
 | _=>false
def QiZ (len:Nat):AV:=if 0<len then .b false else .mb
def Qmv:AV→Option AV
 | .b x=>some (.b (!x))
 | .mb=>some .mb
 | _=>none
def QeM (op:BinOp):AV→AV→Option AV
 | .i k x, .i k' y=>if QbF op then QiA op k x y else if k=k' then QbD op k x y else none
 | .b x, .b y=>match op with | .eql=>some (.b (decide (x=y))) | .neq=>some (.b (!decide (x=y)))|_=>none
 | .s x, .s y=>match op with
  | .add=>if x.size+y.size≤9223372036854775807 then some (.s (x++y)) else none
  | .eql=>some (.b (decide (x=y))) | .neq=>some (.b (!decide (x=y)))|_=>none
 | .slc _ _ _ _ _ len, .nl _=>match op with | .eql=>some (QiZ len) | .neq=>Qmv (QiZ len)|_=>none
 | .nl _, .nl _=>match op with | .eql=>some (.b true) | .neq=>some (.b false)|_=>none
 | .i k x, .cv 0 r off sz _=>match op with | .gtr=>if k = .i64∧0≤x then some (.cv 1 r off sz x.toNat) else none|_=>none
 | _,_=>none
def Qby (kd:Nat):AV→Bool
 | .b _=>kd == 1
 | .slc .. | .nl _=>kd == 2
 | _=>true
def aUn (op:UnOp):AV→Option AV
 | .b x=>match op with | .not=>some (.b (!x))|_=>none
 | .mb=>match op with | .not=>some .mb|_=>none
 | .i k n=>match op with | .neg=>some (.i k (k.wrap (0-n)))|_=>none
 | _=>none
def putCells:List AV→Nat→List AV→List AV
 | cs,_,[]=>cs
 | cs,o,v::vs=>putCells (cs.set o v) (o+1) vs
def Qh9:AV→Bool
 | .fn _ _ | .tup _ | .undef | .bx _ _=>false
 | _=>true
def Qdq (tm:Tm):List AV→List (Nat×Nat×X)→Option (List AV)
 | cs,[]=>some cs
 | cs,(o,n,x)::rest =>
  let vs:=(x.ev tm).cells
  if Qh9 (x.ev tm)=true∧vs.length=n∧o+n≤cs.length then Qdq tm (putCells cs o vs) rest else none
def Qd1 (cs:List AV) (off:Nat):Option Nat→Option AV
 | none=>cs[off]?
 | some n=>if off+n≤cs.length then some (.agg ((cs.drop off).take n)) else none
def bnd (tm:Tm) (hi:Nat):Option X→Nat→Option Nat
 | none,d=>some d
 | some x,_=>match x.ev tm with
  | .i _ n=>if 0≤n∧n≤hi then some n.toNat else none
  | _=>none
def Qpd (mx:Bool):AV→List AV→Option AV
 | v,[]=>some v
 | .i k x, .i k' y::rest=>if k=k' then Qpd mx (.i k (if mx then (if y > x then y else x) else (if y<x then y else x))) rest else none
 | _,_=>none
def Qca:Els→Option (List UInt8)
 | []=>some []
 | [.i .u8 n]::xs=>(Qca xs).map fun r=>UInt8.ofNat n.toNat::r
 | _=>none
def QfV:AV→Bool
 | .agg _ | .fn _ _ | .tup _ | .bx _ _=>false
 | _=>true
def Qgi (rs:Rs) (sz:Nat):AV→Option (Els×List Nat)
 | .nl _=>some ([],[])
 | .s x=>if sz=1 then some (x.toList.map (fun u=>[.i .u8 u.toNat]),[]) else none
 | .slc r q pv sz' off len =>
  (QcV rs r q pv).bind fun (_,_,ro,ys) =>
   if sz'=sz then
    let w:=wnd ys off len
    if Q8 w then
     if ro then some (w.map (·.map QeP),[])
     else match q with
      | []=>some (w,[r])
      | _::_=>none
    else some (w,[])
   else none
 | _=>none
def QeK (rs:Rs) (sz:Nat):AV→Option (Els×Els×Rs×Option Nat)
 | .nl _=>some ([],[],rs,none)
 | .slc r q pv sz' off len =>
  (QcV rs r q pv).bind fun (R,_,ro,ys) =>
   if sz'=sz∧ro=false then
    match Qc2 q with
    | none=>some (wnd ys off len,ys.drop (off+len),up' rs r none,some r)
    | some (q',i,c)=>some (wnd ys off len,ys.drop (off+len),up' rs r (some { R with pv:=R.pv,xs:=Qcb R.xs q' i c }),some r)
   else none
 | _=>none
structure Use where
 own:Bool
 ro:Bool
 at':Option (Nat×QaO)
def Qc9 (rs:Rs) (own:Bool):AV→Option (AV×List Use)
 | .b x=>some (.b x,[])
 | .i k n=>some (.i k n,[])
 | .s x=>some (.s x,[])
 | .nl sz=>if own then some (.nl sz,[]) else some (.deep false true sz [],[⟨false,true,none⟩])
 | .slc r q pv sz off len =>
  (QcV rs r q pv).bind fun (_,_,ro,ys) =>
   if own then (if ro=false∧off=0∧len=ys.length∧q=[] then some (.deep false false sz ys,[⟨true,false,some (r,q)⟩]) else none)
   else some (.deep false true sz (wnd ys off len),[⟨false,ro,some (r,q)⟩])
 | .ptr r q pv 0 0 =>
  (QcV rs r q pv).bind fun (_,sz',ro,ys) =>
   if ys.length=1 then
    if own then (if ro=false∧q=[] then some (.deep true false sz' ys,[⟨true,false,some (r,q)⟩]) else none)
    else some (.deep true true sz' ys,[⟨false,ro,some (r,q)⟩])
   else none
 | _=>none
def QdP (rs:Rs) (own:Bool):List AV→Option (List AV×List Use)
 | []=>some ([],[])
 | v::vs=>(Qc9 rs own v).bind fun (c,a)=>(QdP rs own vs).map fun (cs,asx)=>(c::cs,a++asx)
def QeG (rs:Rs) (own:Bool):AV→Option (AV×List Use)
 | .agg cs=>(QdP rs own cs).map fun (cs,u)=>(.agg cs,u)
 | .fn f cs=>(QdP rs own cs).map fun (cs,u)=>(.fn f cs,u)
 | v=>Qc9 rs own v
def QcY (rs:Rs):List Bool→List AV→Option (List AV×List Use)
 | _,[]=>some ([],[])
 | ms,v::vs=>(QeG rs (ms.headD false) v).bind fun (c,a)=>(QcY rs ms.tail vs).map fun (cs,asx)=>(c::cs,a++asx)
def Use.root (u:Use):Option Nat:=u.at'.map (·.1)
def Qdi:List Use→Bool
 | []=>true
 | u::us=>us.all (fun v => !(u.own || v.own) || u.at'.isNone || v.at'.isNone || decide (u.root≠v.root)) && Qdi us
def QcL:AV→Nat→AV×List Qaj
 | .deep p bo sz xs,n=>(if p then .ptr n [] 0 0 0 else .slc n [] 0 sz 0 xs.length,[⟨!bo,sz,0,xs⟩])
 | v,_=>(v,[])
def Qba:List AV→Nat→List AV×List Qaj
 | [],_=>([],[])
 | v::vs,n=>let a:=QcL v n;let bs:=Qba vs (n+a.2.length);(a.1::bs.1,a.2++bs.2)
def QeF:AV→Nat→AV×List Qaj
 | .agg cs,n=>let a:=Qba cs n;(.agg a.1,a.2)
 | .fn f cs,n=>let a:=Qba cs n;(.fn f a.1,a.2)
 | v,n=>QcL v n
def Qam:List AV→Nat→List AV×List Qaj
 | [],_=>([],[])
 | v::vs,n=>let a:=QeF v n;let bs:=Qam vs (n+a.2.length);(a.1::bs.1,a.2++bs.2)
def QcQ:Nat→Els→Bool
 | 0,_=>true
 | n+1,xs=>xs.any fun el=>el.any fun | .deep _ bo _ ys=>bo || QcQ n ys|_=>false
def Qeg:AV→Bool
 | .deep _ bo _ xs=>bo || QcQ 6 xs
 | _=>false
def QcX:AV→Bool
 | .agg cs=>cs.any Qeg
 | .fn _ cs=>cs.any Qeg
 | v=>Qeg v
def QdT:Option Els→Bool
 | some ys=>QcQ 6 ys
 | none=>false
def QhE (rs:Rs):AV→Option (AV×List Nat)
 | .b x=>some (.b x,[])
 | .i k n=>some (.i k n,[])
 | .s x=>some (.s x,[])
 | .nl sz=>some (.deep false false sz [],[])
 | .slc r q pv sz off len =>
  (QcV rs r q pv).bind fun (_,_,ro,ys)=>if ro then some (.deep false true sz (wnd ys off len),[]) else some (.deep false false sz (wnd ys off len),[r])
 | .ptr r q pv 0 0 =>
  (QcV rs r q pv).bind fun (_,sz,ro,ys)=>if ys.length=1 then (if ro then some (.deep true true sz ys,[]) else some (.deep true false sz ys,[r])) else none
 | _=>none
def Qgj (rs:Rs):List AV→Option (List AV×List Nat)
 | []=>some ([],[])
 | v::vs=>(QhE rs v).bind fun (c,a)=>(Qgj rs vs).map fun (cs,asx)=>(c::cs,a++asx)
def Qln (rs:Rs):AV→Option (AV×List Nat)
 | .agg cs=>(Qgj rs cs).map fun (cs,u)=>(.agg cs,u)
 | .fn f cs=>(Qgj rs cs).map fun (cs,u)=>(.fn f cs,u)
 | v=>QhE rs v
def Qfp (rs:Rs):List AV→Option (List AV×List Nat)
 | []=>some ([],[])
 | v::vs=>(Qln rs v).bind fun (c,a)=>(Qfp rs vs).map fun (cs,asx)=>(c::cs,a++asx)
def Qgd (rs:Rs) (us:List Nat):Nat→List Qaj→List (Option Els)
 | _,[]=>[]
 | n,R::Rs=>(if R.own then (if n∈us then none else (rs n).map Qaj.xs) else none)::Qgd rs us (n+1) Rs
def Qm3 (args:List Qaj) (rs:Rs) (res:List AV):Option Out :=
 (Qfp rs res).bind fun (vs,us)=>if us.Nodup then some (vs,Qgd rs us 0 args) else none
def Qbw (rs:Rs):List Use→List (Option Els)→Option Rs
 | [],[]=>some rs
 | u::us,b::bs =>
  if u.own then
   match u.at',b with
   | none,_=>Qbw rs us bs
   | some (r,_),none=>Qbw (up' rs r none) us bs
   | some (r,_),some ys=>(rs r).bind fun R=>Qbw (up' rs r (some { R with pv:=R.pv+1,xs:=ys })) us bs
  else Qbw rs us bs
 | _,_=>none
def Qck (rs:Rs):Nat→List Qaj→Rs
 | _,[]=>rs
 | n,R::Rs'=>Qck (up' rs n (some R)) (n+1) Rs'
def QfE:List AV→AV
 | [v]=>v
 | vs => .tup vs
def QeL (call:QaM) (fresh:Nat) (rs:Rs) (f:Nat) (ms:List Bool) (vs:List AV):Option (AV×Rs) :=
 (QcY rs ms vs).bind fun (ds,us) =>
  if Qdi us then
   (call f ds).bind fun (res,back) =>
    if ((us.all fun u=>u.own || u.ro) || (!res.any QcX && !back.any QdT))∧(Qam res fresh).2.length≤16∧back.length=us.length then
     (Qbw rs us back).map fun rs' =>
      let a:=Qam res fresh
      (QfE a.1,Qck rs' fresh a.2)
    else none
  else none
def QdF (off:Nat) (news xs:Els):Els:=xs.take off++news++xs.drop (off+news.length)
def QdK (r:Nat) (q:QaO) (pv i c:Nat) (el:List AV):Option Nat→Option AV
 | none=>(el[c]?).map fun v=>QdE r q pv i c v
 | some n=>if c+n≤el.length then some (.agg (Qfl r q pv i c ((el.drop c).take n))) else none
def evI (call:QaM) (fresh:Nat) (tm:Tm) (rs:Rs):I→Option (AV×Rs)
 | .mv x=>some (x.ev tm,rs)
 | .pick c a b=>match c.ev tm with
  | .b t=>some (if t then a.ev tm else b.ev tm,rs)
  | _=>none
 | .nilc x=>match x.ev tm with
  | .ptr r q pv i c=>some (.ptr r q pv i c,rs)
  | .fn f cs=>some (.fn f cs,rs)
  | .bx cs c=>some (.bx cs c,rs)
  | _=>none
 | .bin op kd x y=>if Qby kd (x.ev tm) then (QeM op (x.ev tm) (y.ev tm)).map (·, rs) else none
 | .eqA neg ks x y=>match x.ev tm,y.ev tm with
  | .agg xs, .agg ys=>(QbC ks xs ys).map fun r=>(.b (if neg then !r else r),rs)
  | _,_=>none
 | .un op x=>(aUn op (x.ev tm)).map (·, rs)
 | .build zero parts=>(Qdq tm zero parts).map fun cs=>(.agg cs,rs)
 | .field off n x=>match x.ev tm with
  | .agg cs=>(Qd1 cs off n).map (·, rs)
  | _=>none
 | .ext j x=>match x.ev tm with
  | .tup vs=>(vs[j]?).map (·, rs)
  | _=>none
 | .idxS x j=>match x.ev tm,j.ev tm with
  | .s x, .i _ n=>if 0≤n∧n<x.size then some (.i .u8 ((x.toList.getD n.toNat 0).toNat:Nat),rs) else none
  | _,_=>none
 | .idxA len sz n x j=>match x.ev tm,j.ev tm with
  | .agg cs, .i _ m=>if 0≤m∧m<len then (Qd1 cs (m.toNat * sz) n).map (·, rs) else none
  | _,_=>none
 | .slS x lo hi=>match x.ev tm with
  | .s x=>(bnd tm x.size hi x.size).bind fun h=>(bnd tm h lo 0).map fun l=>(.s (x.extract l h),rs)
  | _=>none
 | .slR sz0 x lo hi=>match x.ev tm with
  | .slc r q pv sz off len=>if sz=sz0 then (bnd tm len hi len).bind fun h=>(bnd tm h lo 0).map fun l=>(.slc r q pv sz (off+l) (h-l),rs) else none
  | .nl sz=>(bnd tm 0 hi 0).bind fun h=>(bnd tm h lo 0).map fun _=>(.nl sz,rs)
  | _=>none
 | .slM sz0 x lo hi mx=>match x.ev tm with
  | .slc r q pv sz off len=>if sz=sz0 then (bnd tm len mx len).bind fun m=>(bnd tm m hi m).bind fun h=>(bnd tm h lo 0).map fun _=>(.undef,rs) else none
  | _=>none
 | .slC sz0 x lo hi=>match x.ev tm with
  | .slc r q pv sz off len=>(QcV rs r q pv).bind fun a=>if sz=sz0 then (bnd tm (max len (a.2.2.2.length-off)) hi len).bind fun h=>(bnd tm h lo 0).map fun l=>(.slc r q pv sz (off+l) (h-l),rs) else none
  | _=>none
 | .len isS x=>match x.ev tm with
  | .s x=>if isS then some (.i .i64 x.size,rs) else none
  | .slc _ _ _ _ _ len=>if isS then none else some (.i .i64 len,rs)
  | .nl _=>if isS then none else some (.i .i64 0,rs)
  | _=>none
 | .cap x=>match x.ev tm with
  | .nl _=>some (.i .i64 0,rs)
  | .slc r q pv sz off len=>if q=[]∧0<len then some (.cv 0 r off sz 0,rs) else none
  | _=>none
 | .conv k x=>match x.ev tm with
  | .i _ n=>some (.i k (k.wrap n),rs)
  | _=>none
 | .faddr off x=>match x.ev tm with
  | .ptr r q pv i c=>some (.ptr r q pv i (c+off),rs)
  | .bx cs c=>some (.bx cs (c+off),rs)
  | _=>none
 | .iaddr sz x j=>match x.ev tm,j.ev tm with
  | .slc r q pv sz' off len, .i _ n=>if sz'=sz∧0≤n∧n<len then some (.ptr r q pv (off+n.toNat) 0,rs) else none
  | _,_=>none
 | .mkfn f caps=>if (caps.map (·.ev tm)).all QfV then some (.fn f (caps.map (·.ev tm)),rs) else none
 | .mm mx xs=>match xs with
  | []=>none
  | x::xs=>(Qpd mx (x.ev tm) (xs.map (·.ev tm))).map (·, rs)
 | .bts x=>match x.ev tm with
  | .nl _=>some (.s .empty,rs)
  | .slc r q pv sz off len=>(QcV rs r q pv).bind fun (_,_,_,ys) =>
   if sz=1 then (Qca (wnd ys off len)).map fun l=>(.s ⟨l.toArray⟩,rs) else none
  | _=>none
 | .ovl sz x y=>match x.ev tm,y.ev tm with
  | .slc r q pv sz1 off len, .slc r2 q2 pv2 sz2 off2 len2=>if q=[]∧q2=[]∧r≠r2∧sz1=sz∧sz2=sz∧0<len∧0<len2 then ((rs r).bind fun R=>(rs r2).bind fun R2=>if R.own=true then some (.b false) else none).map (·, rs) else none
  | _,_=>none
 | .load n a=>match a.ev tm with
  | .ptr r q pv i c=>(QcV rs r q pv).bind fun (R,_,_,xs)=>(xs[i]?).bind fun el=>(QdK r q R.pv i c el n).map (·, rs)
  | .bx cs c=>(Qd1 cs c n).map (·, rs)
  | _=>none
 | .store n a v=>match a.ev tm with
  | .ptr r q pv i c=>(QcV rs r q pv).bind fun (R,_,ro,xs)=>(xs[i]?).bind fun el =>
   (Qdf rs (v.ev tm).cells).bind fun (vs,asx) =>
    if ro=false∧vs.length=n∧c+n≤el.length∧r∉asx∧asx.Nodup then
     some (.undef,up' (kill rs asx) r (some { R with
      pv:=if Qa7 vs then R.pv+1 else R.pv,xs:=QbK R.xs q fun ys=>QaY ys i c vs }))
    else none
  | _=>none
 | .box n x=>(Qdf rs (x.ev tm).cells).bind fun (vs,asx) =>
  if vs.length=n∧asx.Nodup then some (.ptr fresh [] 0 0 0,up' (kill rs asx) fresh (some ⟨true,n,0,[vs]⟩)) else none
 | .boxK x=>if Qh9 (x.ev tm)=true then some (.bx (x.ev tm).cells 0,rs) else none
 | .alloc zero=>some (.ptr fresh [] 0 0 0,up' rs fresh (some ⟨true,zero.length,0,[zero]⟩))
 | .lit sz len zero parts =>
  (go tm rs parts (List.replicate len zero) []).bind fun (xs,asx) =>
   if asx.Nodup then some (.slc fresh [] 0 sz 0 len,up' (kill rs asx) fresh (some ⟨true,sz,0,xs⟩)) else none
 | .mks sz by' zero n=>match n.ev tm with
  | .i _ m=>if 0≤m∧m * by'≤140737488355328 then
   some (.slc fresh [] 0 sz 0 m.toNat,up' rs fresh (some ⟨true,sz,0,List.replicate m.toNat zero⟩)) else none
  | _=>none
 | .app sz by' x y=>(Qgi rs sz (y.ev tm)).bind fun (ys,asx) =>
  (QeK rs sz (x.ev tm)).bind fun (pre,post,rs',r0) =>
   if (pre.length+ys.length) * by'≤140737488355328∧(∀ r∈asx,some r≠r0)∧asx.Nodup then
    some (.slc fresh [] 0 sz 0 (pre.length+ys.length),up' (kill rs' asx) fresh (some ⟨true,sz,0,pre++ys++post.drop ys.length⟩))
   else none
 | .appZ by' zero k x y=>match y.ev tm with
  | .i .i64 m=>if 0<m then match x.ev tm with
   | .nl _=>if m.toNat * by'≤140737488355328 then some (.slc fresh [] 0 zero.length 0 m.toNat,up' rs fresh (some ⟨true,zero.length,0,List.replicate m.toNat zero⟩)) else none
   | .slc r1 q pv sz2 off1 len=>match k.ev tm with
    | .cv 3 r off sz1 n=>if r=r1∧q=[]∧sz1=zero.length∧sz2=zero.length∧off=off1 then (rs r).bind fun R =>
     if R.own=true∧Q8 (wnd R.xs off len)=false∧n≤len+m.toNat∧off<R.xs.length∧(len+m.toNat) * by'≤140737488355328 then
      some (.slc fresh [] 0 zero.length 0 (len+m.toNat),up' rs fresh (some ⟨true,zero.length,0,wnd R.xs off len++List.replicate m.toNat zero⟩)) else none
     else none
    | _=>none
   | _=>none
   else none
  | _=>none
 | .slX sz k x hi=>match k.ev tm,x.ev tm,hi.ev tm with
  | .cv 2 r off sz1 n, .slc r1 q pv sz2 off1 len, .i _ h=>if r=r1∧q=[]∧sz1=sz∧sz2=sz∧off=off1∧0<len∧0≤h∧h≤n then (rs r).bind fun R =>
   if R.own=true then some (.slc fresh [] 0 sz off h.toNat,up' (kill rs [r]) fresh (some ⟨true,sz,0,R.xs++List.replicate (off+h.toNat-R.xs.length) (List.replicate sz .undef)⟩)) else none
   else none
  | _,_,_=>none
 | .copy sz x y=>match x.ev tm with
  | .slc r q pv sz' off len=>match y.ev tm with
   | .slc r2 q2 pv2 sz2 off2 len2=>if q=[]∧sz'=sz∧sz2=sz then (rs r).bind fun R=>(QcV rs r2 q2 pv2).bind fun a =>
    if R.own=true∧Q8 (wnd a.2.2.2 off2 (min len2 len))=false then some (.i .i64 (min len2 len:Nat),up' rs r (some { R with xs:=QdF off (wnd a.2.2.2 off2 (min len2 len)) R.xs })) else none
    else none
   | _=>none
  | _=>none
 | .copyK sz x y=>match x.ev tm with
  | .slc r q pv sz' off len=>match y.ev tm with
   | .slc r2 q2 pv2 sz2 off2 len2=>if q=[]∧q2=[]∧r≠r2∧sz'=sz∧sz2=sz then (rs r).bind fun R=>(rs r2).bind fun R2 =>
    if R.own=true∧Q8 (wnd R2.xs off2 (min len2 len))=false then some (.i .i64 (min len2 len:Nat),kill (up' rs r (some { R with xs:=QdF off (wnd R2.xs off2 (min len2 len)) R.xs })) [r2]) else none
    else none
   | _=>none
  | _=>none
 | .clr zero x=>match x.ev tm with
  | .slc r q pv sz off len=>if q=[]∧sz=zero.length then (rs r).bind fun R =>
   if R.own=true∧Q8 (List.replicate len zero)=false then some (.undef,up' rs r (some { R with xs:=QdF off (List.replicate len zero) R.xs })) else none
   else none
  | _=>none
 | .call f ms args=>QeL call fresh rs f ms (args.map (·.ev tm))
 | .callv g ms args=>match g.ev tm with
  | .fn f caps=>QeL call fresh rs f ms (args.map (·.ev tm)++caps)
  | _=>none
where
 go (tm:Tm) (rs:Rs):List (Nat×X)→Els→List Nat→Option (Els×List Nat)
 | [],xs,asx=>some (xs,asx)
 | (j,x)::rest,xs,asx=>(Qdf rs (x.ev tm).cells).bind fun (vs,as') =>
  if (xs[j]?).map (·.length)=some vs.length then go tm rs rest (xs.set j vs) (asx++as') else none
structure Op' where
 d:Option Nat
 g:Option (Nat×Bool)
 s:List Nat
 i:I
structure Pl where
 r:Nat
 i:Nat
 c:Nat
 id:Nat
def QAb:Option AV→Bool
 | some (.deep false _ _ _)=>true
 | _=>false
def QbW (n:Nat) (rs:Rs):AV→AV×Rs×List Pl
 | .slc r q pv sz off len=>match Qc2 q with
  | none=>(.slc r q pv sz off len,rs,[])
  | some (q',i,c)=>match QcV rs r q pv with
   | some (R,sz',false,ys)=>(.slc n [] 0 sz off len,up' (up' rs r (some { R with pv:=R.pv,xs:=Qcb R.xs q' i c })) n (some ⟨true,sz',0,ys⟩),if q'.isEmpty && QAb (QW R.xs i c) then [⟨r,i,c,n⟩] else [])
   | _=>(.slc r q pv sz off len,rs,[])
 | v=>(v,rs,[])
def Qbk (n:Nat) (rs:Rs):List AV→List AV×Rs×List Pl
 | []=>([],rs,[])
 | v::vs=>let a:=QbW n rs v;let b:=Qbk (n+1) a.2.1 vs;(a.1::b.1,b.2.1,a.2.2++b.2.2)
def QbR (n:Nat) (rs:Rs):AV→Option (AV×Rs×List Pl)
 | .agg cs=>if cs.length≤16 then let a:=Qbk n rs cs;some (.agg a.1,a.2) else none
 | v=>some (QbW n rs v)
def QbE (n:Nat) (tm:Tm) (rs:Rs):List Nat→Option (Tm×Rs×List Pl)
 | []=>some (tm,rs,[])
 | t::ts=>(QbR n rs (tm t)).bind fun a=>(QbE (n+16) (up' tm t a.1) a.2.1 ts).map fun b=>(b.1,b.2.1,a.2.2++b.2.2)
def Qbx (rs:Rs) (p:Pl):Rs :=
 match rs p.r,rs p.id with
 | some R,some Ri=>match QW R.xs p.i p.c with
  | some .undef=>if R.own=true∧Ri.own=true∧p.r≠p.id then up' (kill rs [p.id]) p.r (some { R with pv:=R.pv+1,xs:=QaY R.xs p.i p.c [.deep false false Ri.sz Ri.xs] }) else rs
  | _=>rs
 | _,_=>rs
def same (rs0 rs:Rs) (p:Pl):Bool :=
 match rs0 p.r,rs p.r with
 | some R,some R'=>R.pv == R'.pv
 | _,_=>false
def QcD (rs0 rs:Rs) (pl:List Pl):Rs:=(pl.filter (same rs0 rs)).foldl Qbx rs
def I.isCall:I→Bool
 | .call .. | .callv .. => true
 | _=>false
def Qcw (tm:Tm):Option (Nat×Bool)→Option Bool
 | none=>some true
 | some (t,b)=>match tm t with
  | .b x=>some (x == b)
  | .tup []=>some false
  | _=>none
def QeN (tm:Tm):Option Nat→AV→Tm
 | some d,v=>up' tm d v
 | none,_=>tm
def Qeo (call:QaM) (fresh:Nat) (o:Op') (s:Tm×Rs):Option (Tm×Rs) :=
 (Qcw s.1 o.g).bind fun w=>if w then (if o.s.length≤4 then QbE (fresh+16) s.1 s.2 o.s else none).bind fun s'=>(evI call fresh s'.1 s'.2.1 o.i).map fun (v,rs')=>(QeN s'.1 o.d v,if o.i.isCall then QcD s'.2.1 rs' s'.2.2 else rs') else some (QeN s.1 o.d (.tup []),s.2)
def idw:Nat:=80
def QbB (call:QaM):Nat→List Op'→(Tm×Rs)→Option (Tm×Rs)
 | _,[],s=>some s
 | n,o::os,s=>(Qeo call n o s).bind (QbB call (n+idw) os)
inductive QcZ where
 | done
 | take (k:Nat) (s:QcZ)
 | alt (a b:QcZ)
open Classical in
noncomputable def Qcg (call:QaM) (n:Nat) (l:List Op'):QcZ→(Tm×Rs)→Option (Tm×Rs)
 | .done,s=>some s
 | .take k sc,s=>(l[k]?).bind fun o=>(Qeo call (n+k * idw) o s).bind (Qcg call n l sc)
 | .alt a b,s=>(Qcg call n l a s).bind fun r=>if Qcg call n l b s=some r then some r else none
inductive C where
 | skip
 | ops (l:List Op')
 | draw (sch:QcZ) (l:List Op')
 | seq (a b:C)
 | cond (x:X) (a b:C)
 | blk (id:Nat) (c:C)
 | loop (m:Nat) (live:List Nat) (c:C)
 | exit (id:Nat)
 | ret
 | kp (live:List Nat) (c:C)
 | jn (m:Nat) (live:List Nat) (c:C)
def Qav:List (Nat×AV)→Tm
 | []=>fun _ => .undef
 | (t,v)::l=>up' (Qav l) t v
def forget (live:List Nat) (st:St):St := { st with tm:=Qav (live.map fun t=>(t,st.tm t)) }
def QoX:AV→List Nat
 | .slc r _ _ _ _ _=>[r]
 | .ptr r _ _ _ _=>[r]
 | _=>[]
def QyB:AV→List Nat
 | .agg cs=>cs.flatMap QoX
 | .fn _ cs=>cs.flatMap QoX
 | .bx cs _=>cs.flatMap QoX
 | v=>QoX v
def Qgg (rs:Rs):List Nat→List Nat→List Nat
 | acc,[]=>acc
 | acc,r::l=>if (rs r).isSome∧r∉acc then Qgg rs (acc++[r]) l else Qgg rs acc l
def QkW (m:Nat) (live:List Nat) (st:St):List Nat:=Qgg st.rs (List.range m) (live.flatMap fun t=>QyB (st.tm t))
def Qyg (rs:Rs) (r:Nat) (q:QaO) (pv:Nat):Bool :=
 match rs r with
 | some R=>match q with
  | []=>true
  | _::_=>pv == R.pv
 | none=>false
def Ql7 (rs:Rs) (od:List Nat):AV→AV
 | .slc r q pv sz off len=>if r∈od∧Qyg rs r q pv then .slc (od.idxOf r) q 0 sz off len else .undef
 | .ptr r q pv i c=>if r∈od∧Qyg rs r q pv then .ptr (od.idxOf r) q 0 i c else .undef
 | .vp x c=>if x∈od then .vp (od.idxOf x) c else .undef
 | .cv k r off sz n=>if r∈od then .cv k (od.idxOf r) off sz n else .undef
 | v=>v
def QoW (rs:Rs) (od:List Nat):AV→AV
 | .agg cs => .agg (cs.map (Ql7 rs od))
 | .fn f cs => .fn f (cs.map (Ql7 rs od))
 | .bx cs c => .bx (cs.map (Ql7 rs od)) c
 | .tup _ => .undef
 | v=>Ql7 rs od v
def QsN (rts:List (Option Qaj)):Rs:=fun k=>(rts[k]?).join
def canon (m:Nat) (live:List Nat) (st:St):St :=
 let od:=QkW m live st
 ⟨Qav (live.map fun t=>(t,QoW st.rs od (st.tm t))),QsN (od.map fun r=>(st.rs r).map fun R => { R with pv:=0 }),od.length⟩
def tok (x:X) (k r off sz n:Nat) (st:St):St:=match x with
 | .t c => { st with tm:=up' st.tm c (.cv k r off sz n) }
 | .k _=>st
open Classical in
noncomputable def evC (call:QaM) (again:C→St→Qgh→Option Out):C→St→Qgh→Option Out
 | .skip,st,K=>K .normal st
 | .ops l,st,K=>(QbB call st.nx l (st.tm,st.rs)).bind fun s=>K .normal ⟨s.1,s.2,st.nx+l.length * idw⟩
 | .draw sch l,st,K=>(Qcg call st.nx l sch (st.tm,st.rs)).bind fun s=>K .normal ⟨s.1,s.2,st.nx+l.length * idw⟩
 | .seq a b,st,K=>evC call again a st fun e st'=>match e with
  | .normal=>evC call again b st' K
  | .exit id=>K (.exit id) st'
  | .ret=>K .ret st'
 | .cond x a b,st,K=>match x.ev st.tm with
  | .b t=>if t then evC call again a st K else evC call again b st K
  | .mb=>(evC call again a st K).bind fun r=>if evC call again b st K=some r then some r else none
  | .cv 1 r off sz n=>(evC call again a (tok x 3 r off sz n st) K).bind fun u=>if evC call again b (tok x 2 r off sz n st) K=some u then some u else none
  | _=>none
 | .blk id c,st,K=>evC call again c st fun e st'=>match e with
  | .normal=>K .normal st'
  | .exit i=>if i=id then K .normal st' else K (.exit i) st'
  | .ret=>K .ret st'
 | .loop m live c,st,K=>evC call again c (canon m live st) fun e st'=>match e with
  | .normal=>again (.loop m live c) st' K
  | .exit id=>K (.exit id) st'
  | .ret=>K .ret st'
 | .exit id,st,K=>K (.exit id) st
 | .ret,st,K=>K .ret st
 | .kp live c,st,K=>evC call again c st fun e st'=>match e with
  | .normal=>K .normal (forget live st')
  | .exit id=>K (.exit id) st'
  | .ret=>K .ret st'
 | .jn m live c,st,K=>evC call again c st fun e st'=>match e with
  | .normal=>K .normal (canon m live st')
  | .exit id=>K (.exit id) st'
  | .ret=>K .ret st'
inductive Res where
 | t (n:Nat)
 | cell (a:Nat) (n:Option Nat)
structure Fn where
 m:Nat
 body:C
 res:List Res
def QjA (st:St):Res→Option AV
 | .t n=>some (st.tm n)
 | .cell a n=>(evI (fun _ _=>none) 0 st.tm st.rs (.load n (.t a))).map (·.1)
def QbU (st:St):List Res→Option (List AV)
 | []=>some []
 | r::rs=>(QjA st r).bind fun v=>(QbU st rs).map (v :: ·)
def Qbc (n:Nat) (rs:Rs):List AV→Option (List AV×Rs)
 | []=>some ([],rs)
 | v::vs=>(QbR n rs v).bind fun a=>(Qbc (n+16) a.2.1 vs).map fun b=>(a.1::b.1,b.2)
structure Ext where
 g:QaM→List AV→Option Out
 mono:∀ c c':QaM,(∀ f ds out,c f ds=some out→c' f ds=some out)→∀ ds out,g c ds=some out→g c' ds=some out
structure Env where
 fns:Nat→Option Fn
 ext:Nat→Option Ext
def QcU (ds:List AV):St:=let a:=Qam ds 0;⟨fun t=>a.1.getD t .undef,fun r=>a.2[r]?, a.2.length⟩
def Qyp (F:Fn) (ds:List AV):Qgh:=fun e st=>match e with
 | .exit _=>none
 | _=>(QbU st F.res).bind fun vs=>(Qbc st.nx st.rs vs).bind fun p=>Qm3 (Qam ds 0).2 p.2 p.1
def QdS (E:Env) (run:C→St→Qgh→Option Out) (call:QaM):QaM:=fun f ds =>
 match E.ext f with
 | some x=>x.g call ds
 | none=>(E.fns f).bind fun F=>if (Qam ds 0).2.length≤F.m then run F.body (QcU ds) (Qyp F ds) else none
noncomputable def evp (E:Env):Nat→(C→St→Qgh→Option Out)×QaM
 | 0=>(fun _ _ _=>none,QdS E (fun _ _ _=>none) (fun _ _=>none))
 | k+1=>(evC (evp E k).2 (evp E k).1,QdS E (evC (evp E k).2 (evp E k).1) (evp E k).2)
noncomputable def ev (E:Env) (k:Nat):C→St→Qgh→Option Out:=(evp E k).1
noncomputable def Qch (E:Env) (k:Nat):QaM:=(evp E k).2
theorem Qyo (E:Env) (k:Nat):ev E (k+1)=evC (Qch E k) (ev E k):=rfl
theorem Qe8 (E:Env) (k:Nat):Qch E (k+1)=QdS E (ev E (k+1)) (Qch E k):=rfl
theorem Qod (E:Env):Qch E 0=QdS E (ev E 0) (fun _ _=>none):=rfl
end
end Go.Proofs.YtallpjhkmcgpoaaGreat.V
end
section
namespace Go.Proofs.YtallpjhkmcgpoaaGreat.V
open Go
theorem Qb3:∀ (q:QaO) (s:Nat) (ro:Bool) (xs:Els) (q':QaO),QaB s ro xs (q++q')=(QaB s ro xs q).bind fun x=>QaB x.1 x.2.1 x.2.2 q'
 | [],_,_,_,_=>rfl
 | (i,c)::q,s,ro,xs,q'=>by
  simp only [List.cons_append,QaB]
  split
  ·exact Qb3 q _ _ _ q'
  ·rfl
theorem QaZ {s:Nat} {ro:Bool} {xs:Els} {i c:Nat} {q:QaO} {x} (h:QaB s ro xs ((i,c)::q)=some x) :
 ∃ p bo sz ys,QW xs i c=some (.deep p bo sz ys)∧QaB sz (ro || bo) ys q=some x:=by
 simp only [QaB] at h
 split at h
 ·rename_i p bo sz ys e
  exact ⟨p,bo,sz,ys,e,h⟩
 ·cases h
theorem Qcv:∀ (q:QaO) {s:Nat} {xs:Els} {x}, QaB s true xs q=some x→x.2.1=true
 | [],_,_,_,h=>by simp only [QaB,Option.some.injEq] at h;rw [←h]
 | (i,c)::q,s,xs,x,h=>by
  obtain ⟨p,bo,sz,ys,_,h'⟩:=QaZ h
  exact Qcv q (by simpa using h')
theorem Qas {xs:Els} {i c:Nat} {v:AV} (h:QW xs i c=some v):∃ el,xs[i]? = some el∧el[c]? = some v:=by
 simpa [QW,Option.bind_eq_some_iff] using h
theorem QbN {xs:Els} {i c:Nat} {v:AV} {el:List AV} (h:xs[i]? = some el) (h':el[c]? = some v):QW xs i c=some v:=by simp [QW,h,h']
theorem Qcm (xs:Els) (i c:Nat) (vs:List AV):(QaY xs i c vs).length=xs.length:=by
 unfold QaY;split <;> simp
theorem Qev {xs:Els} {i c:Nat} {vs el:List AV} (h:xs[i]? = some el) (j:Nat) :
 (QaY xs i c vs)[j]? = if j=i then some (el.take c++vs++el.drop (c+vs.length)) else xs[j]? := by
 have hi:i<xs.length:=(List.getElem?_eq_some_iff.1 h).1
 unfold QaY;simp only [h]
 by_cases e:j=i
 ·subst e;simp [hi]
 ·rw [if_neg e,List.getElem?_set_ne (Ne.symm e)]
theorem QnN {α:Type} {el vs:List α} {c:Nat} (h:c+vs.length≤el.length) (k:Nat) :
 (el.take c++vs++el.drop (c+vs.length))[k]? = if c≤k∧k<c+vs.length then vs[k-c]? else el[k]? := by
 have h1:(el.take c).length=c:=by simp;omega
 by_cases a:k<c
 ·rw [if_neg (by omega),List.append_assoc,List.getElem?_append_left (by omega),List.getElem?_take_of_lt a]
 ·by_cases b:k<c+vs.length
  ·rw [if_pos ⟨by omega,b⟩,List.append_assoc,List.getElem?_append_right (by omega),h1,List.getElem?_append_left (by omega)]
  ·rw [if_neg (by omega),List.getElem?_append_right (by simp [h1];omega),List.getElem?_drop]
   congr 1
   simp [h1];omega
theorem Qb9 {α:Type} {el vs:List α} {c:Nat} (h:c+vs.length≤el.length):(el.take c++vs++el.drop (c+vs.length)).length=el.length:=by
 simp;omega
theorem QbT {xs:Els} {i c:Nat} {vs el:List AV} (h:xs[i]? = some el) (hc:c+vs.length≤el.length) (j k:Nat) :
 QW (QaY xs i c vs) j k=if j=i∧c≤k∧k<c+vs.length then vs[k-c]? else QW xs j k:=by
 unfold QW
 rw [Qev h]
 by_cases e:j=i
 ·subst e
  simp only [if_true,Option.bind_some,h,true_and]
  exact QnN hc k
 ·simp [e]
theorem Qgp {xs:Els} {off len:Nat} (h:off+len≤xs.length) (i:Nat):(wnd xs off len)[i]? = if i<len then xs[off+i]? else none:=by
 unfold wnd
 rw [List.getElem?_take]
 split
 ·rw [List.getElem?_drop]
 ·rfl
theorem QaS {xs:Els} {off len:Nat} (h:off+len≤xs.length):(wnd xs off len).length=len:=by
 unfold wnd;simp;omega
theorem Qbp {xs:Els} {off len:Nat} (h:off+len≤xs.length) {i c:Nat} {v:AV} (hc:QW (wnd xs off len) i c=some v):i<len∧QW xs (off+i) c=some v:=by
 obtain ⟨el,h1,h2⟩:=Qas hc
 rw [Qgp h] at h1
 split at h1
 ·rename_i hl;exact ⟨hl,QbN h1 h2⟩
 ·cases h1
end Go.Proofs.YtallpjhkmcgpoaaGreat.V
end
section
namespace Go.Proofs.YtallpjhkmcgpoaaGreat.V
open Go
abbrev Gh:=QaO→Option (Nat×Nat)
def Gh.at' (B:Gh) (i c:Nat):Gh:=fun ρ=>B ((i,c)::ρ)
def Gh.from' (B:Gh) (q:QaO):Gh:=fun ρ=>B (q++ρ)
def One (cur:Array Value):Prop:=∀ v∈cur.toList,v.oneCell'=true
def Blk (w:World) (b:Nat) (ro:Bool) (cur:Array Value):Prop:=∃ e fr,w.heap[b]? = some (.cells cur e fr)∧(ro=false→fr=(0,0)∧One cur)
def Big (w:World) (b:Nat) (n:Nat×Bool):Prop:=∃ cur e fr,w.heap[b]? = some (.cells cur e fr)∧n.1≤cur.size∧(n.2=true→n.1=cur.size)
theorem Big.lax {w:World} {b n:Nat} {x:Bool} (h:Big w b (n,x)):Big w b (n,false):=let ⟨cur,e,fr,h1,h2,_⟩:=h;⟨cur,e,fr,h1,h2,fun h=>by cases h⟩
theorem Big.ro {w:World} {b n:Nat} {x y:Bool} (h:Big w b (n, !x)):Big w b (n, !(y || x)):=by
 cases y
 ·exact h
 ·exact h.lax
theorem Big.any {w:World} {b n:Nat} {x:Bool} (h:Big w b (n,true)):Big w b (n,x):=by
 cases x
 ·exact h.lax
 ·exact h
theorem Big.of {w:World} {b n e:Nat} {fr:Nat×Nat} {cur:Array Value} {x:Bool} (h:w.heap[b]? = some (.cells cur e fr)) (hn:n=cur.size):Big w b (n,x):=⟨cur,e,fr,h,Nat.le_of_eq hn,fun _=>hn⟩
theorem Big.same {w:World} {b n m:Nat} (h:Big w b (n,true)) (h':Big w b (m,true)):n=m:=by
 obtain ⟨cur,e,fr,h1,_,h2⟩:=h
 obtain ⟨cur',e',fr',h1',_,h2'⟩:=h'
 rw [h1] at h1';injection h1' with h1';injection h1' with h1';subst h1'
 exact (h2 rfl).trans (h2' rfl).symm
def HdR (w:World) (a:Option (Nat×Nat)) (p bo:Bool) (sz n:Nat) (v:Value):Prop :=
 match p,a with
 | false,none=>n=0∧∃ x,v = .slice x 0 0
 | false,some (b,o)=>∃ cap,v = .slice (some ⟨b,o,none⟩) n cap∧n≤cap∧Big w b (o+cap * sz, !bo)
 | true,some (b,o)=>v = .pointer (some ⟨b,o,none⟩)∧n=1
 | true,none=>False
theorem HdR.lax {w:World} {a:Option (Nat×Nat)} {p bo:Bool} {sz n:Nat} {v:Value} (h:HdR w a p bo sz n v):HdR w a p true sz n v:=by
 unfold HdR at *
 split
 ·exact h
 ·obtain ⟨cap,h1,h2,h3⟩:=h
  exact ⟨cap,h1,h2,h3.lax⟩
 ·exact h
 ·exact h
def QaR (w:World) (B:Gh):AV→Value→Prop
 | .undef,_=>True
 | .b x,v=>v = .bool x
 | .i k n,v=>v = .int k n
 | .s x,v=>v = .string x
 | .deep p bo sz ys,v=>HdR w (B []) p bo sz ys.length v
 | _,_=>False
def Qzj (w:World) (ro:Bool) (sz:Nat) (B:Gh) (ys:Els):Prop :=
 (∀ (i:Nat) el,ys[i]? = some el→el.length=sz) ∧
 match B [] with
 | none=>ys=[]
 | some (b,o)=>∃ cur,Blk w b ro cur∧∀ i c cell,QW ys i c=some cell→∃ v,cur[o+i * sz+c]? = some v∧v.oneCell'=true∧QaR w (B.at' i c) cell v
def Qbg (w:World) (ro:Bool) (sz:Nat) (B:Gh) (xs:Els):Prop :=
 ∀ q s ro' ys,QaB sz ro xs q=some (s,ro',ys)→Qzj w ro' s (B.from' q) ys
theorem Qbg.top {w:World} {ro:Bool} {sz:Nat} {B:Gh} {xs:Els} (h:Qbg w ro sz B xs):Qzj w ro sz B xs:=h [] sz ro xs rfl
theorem Qbg.sub {w:World} {ro:Bool} {sz:Nat} {B:Gh} {xs:Els} (h:Qbg w ro sz B xs) {i c:Nat} {p bo:Bool} {sz':Nat} {ys:Els}
 (hc:QW xs i c=some (.deep p bo sz' ys)):Qbg w (ro || bo) sz' (B.at' i c) ys :=
 fun q s ro' zs hq=>h ((i,c)::q) s ro' zs (by simp only [QaB,hc];exact hq)
theorem Qbg.mk' {w:World} {ro:Bool} {sz:Nat} {B:Gh} {xs:Els} (h:Qzj w ro sz B xs)
 (hs:∀ i c p bo sz' ys,QW xs i c=some (.deep p bo sz' ys)→Qbg w (ro || bo) sz' (B.at' i c) ys):Qbg w ro sz B xs
 | [],s,ro',ys,hq=>by simp only [QaB,Option.some.injEq,Prod.mk.injEq] at hq;obtain ⟨rfl,rfl,rfl⟩:=hq;exact h
 | (i,c)::q,s,ro',ys,hq=>by
  obtain ⟨p,bo,sz',zs,e,h'⟩:=QaZ hq
  exact hs i c p bo sz' zs e q s ro' ys h'
theorem Qbg.path {w:World} {ro:Bool} {sz:Nat} {B:Gh} {xs:Els} (h:Qbg w ro sz B xs) {q:QaO} {s:Nat} {ro':Bool} {ys:Els}
 (hq:QaB sz ro xs q=some (s,ro',ys)):Qbg w ro' s (B.from' q) ys:=fun q' s' ro2 zs h'=>by
 have:=h (q++q') s' ro2 zs (by rw [Qb3,hq];exact h')
 have e:(B.from' q).from' q'=B.from' (q++q'):=by funext ρ;simp [Gh.from']
 rw [e];exact this
def Key (sz:Nat) (ro:Bool) (B:Gh) (xs:Els) (f:Bool) (ρ:QaO) (b:Nat):Prop:=∃ s ys o,QaB sz ro xs ρ=some (s,f,ys)∧B ρ=some (b,o)
theorem Key.sub {sz:Nat} {ro:Bool} {B:Gh} {xs:Els} {f:Bool} {q ρ:QaO} {b:Nat} {s:Nat} {ro':Bool} {ys:Els}
 (hq:QaB sz ro xs q=some (s,ro',ys)) (h:Key s ro' (B.from' q) ys f ρ b):Key sz ro B xs f (q++ρ) b:=by
 obtain ⟨s',zs,o,h1,h2⟩:=h
 exact ⟨s',zs,o,by rw [Qb3,hq];exact h1,h2⟩
theorem HdR.mono {w w':World} {a:Option (Nat×Nat)} {p bo:Bool} {sz n:Nat} {v:Value} (h:HdR w a p bo sz n v)
 (hb:∀ b o m,a=some (b,o)→Big w b m→Big w' b m):HdR w' a p bo sz n v:=by
 unfold HdR at *
 split
 ·exact h
 ·obtain ⟨cap,h1,h2,h3⟩:=h
  exact ⟨cap,h1,h2,hb _ _ _ rfl h3⟩
 ·exact h
 ·exact h
theorem QaR.mono {w w':World} {B:Gh} {av:AV} {v:Value} (h:QaR w B av v) (hb:∀ b m,Big w b m→Big w' b m):QaR w' B av v:=by
 unfold QaR at *
 split <;> simp only [] at h ⊢ <;> try exact h
 exact HdR.mono h fun b o m _=>hb b m
theorem Qbg.mono {w w':World} {ro:Bool} {sz:Nat} {B:Gh} {xs:Els} (h:Qbg w ro sz B xs) (hB:∀ b m,Big w b m→Big w' b m)
 (hb:∀ ρ f b,Key sz ro B xs f ρ b→w'.heap[b]? = w.heap[b]?):Qbg w' ro sz B xs:=fun q s ro' ys hq=>by
 have h1:=h q s ro' ys hq
 refine ⟨h1.1, ?_⟩
 have h2:=h1.2
 cases e:B.from' q [] with
 | none=>simp only [e] at h2 ⊢; exact h2
 | some x =>
  obtain ⟨b,o⟩:=x
  simp only [e] at h2 ⊢
  obtain ⟨cur,⟨ty,fr,hw,hf⟩,hc⟩:=h2
  have hk:w'.heap[b]? = w.heap[b]? := hb q ro' b ⟨s,ys,o,hq,by simpa [Gh.from'] using e⟩
  refine ⟨cur,⟨ty,fr,by rw [hk];exact hw,hf⟩,fun i c cell hcell => ?_⟩
  obtain ⟨v,h3,h4,h5⟩:=hc i c cell hcell
  exact ⟨v,h3,h4,h5.mono hB⟩
structure Cx where
 base:Nat
 O:Nat→Prop
 S:Nat→Prop
 ok:∀ b,S b→b<base∧¬O b
 m0:Nat
 rs0:Rs
 A0:Nat→Gh
def Qaj.Key (R:Qaj) (B:Gh) (f:Bool) (ρ:QaO) (b:Nat):Prop:=V.Key R.sz (!R.own) B R.xs f ρ b
structure HR (cx:Cx) (w:World) (A:Nat→Gh) (rs:Rs):Prop where
 tree:∀ r R,rs r=some R→Qbg w (!R.own) R.sz (A r) R.xs
 own:∀ r R ρ b,rs r=some R→R.Key (A r) false ρ b→cx.base≤b∨cx.O b
 sta:∀ r R ρ b,rs r=some R→R.Key (A r) true ρ b→cx.S b
 inj:∀ r R ρ r' R' ρ' b,rs r=some R→R.Key (A r) false ρ b→rs r'=some R'→R'.Key (A r') false ρ' b→r=r'∧ρ=ρ'
structure Fr (cx:Cx) (w0 w:World):Prop where
 base:cx.base≤w.heap.size
 block:∀ b,b<cx.base→¬cx.O b→w.heap[b]? = w0.heap[b]?
 os:w.os=w0.os
 tape:w.tape=w0.tape
 output:w.output=w0.output
 drawn:w0.drawn≤w.drawn
section
variable (D:Nat→Prop) (A:Nat→Gh) (rs:Rs) (w:World)
def PR:AV→Value→Prop
 | .undef,_=>True
 | .mb,v=>∃ x,v = .bool x
 | .b x,v=>v = .bool x
 | .i k n,v=>v = .int k n
 | .s x,v=>v = .string x
 | .nl _,v=>v = .slice none 0 0
 | .slc r q pv sz off len,v=>D r∧∃ a cap,v = .slice a len cap∧len≤cap∧(a=none→cap=0)∧∀ R,rs r=some R→(q≠[]→pv≤R.pv) ∧
  ∀ s ro ys,R.arr q pv=some (s,ro,ys)→s=sz∧off+len≤ys.length ∧
   ((cap=0∧ys.length≤off)∨∃ b o,A r q=some (b,o)∧a=some ⟨b,o+off * sz,none⟩∧Big w b (o+(off+cap) * sz, !ro)∧ys.length≤off+cap)
 | .ptr r q pv i c,v=>D r∧∃ a,v = .pointer (some a)∧∀ R,rs r=some R→(q≠[]→pv≤R.pv) ∧
  ∀ s ro ys,R.arr q pv=some (s,ro,ys)→∀ el,ys[i]? = some el→∃ b o,A r q=some (b,o)∧a=⟨b,o+i * s+c,none⟩
 | .cv k r off sz n,v=>D r∧∃ cap:Nat,(match k with|0=>v = .int .i64 cap|1=>v = .bool (decide (cap<n))|2=>v = .bool false∧n≤cap|_=>v = .bool true∧cap<n)∧∀ R,rs r=some R→R.sz=sz∧∃ b o,A r []=some (b,o)∧Big w b (o+(off+cap) * sz,R.own)
 | .vp x c,v=>D x∧rs x=none∧∃ b o,A x []=some (b,o)∧v = .pointer (some ⟨b,o+c,none⟩)
 | _,_=>False
def Pw {α β:Type} (R:α→β→Prop) (xs:List α) (ys:List β):Prop:=xs.length=ys.length∧∀ (i:Nat) x,xs[i]? = some x→∃ y,ys[i]? = some y∧R x y
def V1:AV→Value→Prop
 | .agg cs,v=>∃ a,v = .agg a∧Pw (PR D A rs w) cs a.toList
 | .fn f cs,v=>∃ a,v = .func (.func f) #[] a∧Pw (PR D A rs w) cs a.toList
 | av,v=>PR D A rs w av v
def VR:AV→Value→Prop
 | .tup vs,v=>∃ a,v = .tuple a∧Pw (V1 D A rs w) vs a.toList
 | .bx cs c,v=>∃ b cur ty,v = .pointer (some ⟨b,c,none⟩)∧w.heap[b]? = some (.cells cur ty (0,0))∧Pw (PR D A rs w) cs cur.toList∧∀ r R ρ,rs r=some R→¬R.Key (A r) false ρ b
 | av,v=>V1 D A rs w av v
end
def Qgn (D:Nat→Prop) (A:Nat→Gh) (rs:Rs) (A':Nat→Gh) (rs':Rs):Prop :=
 (∀ x,D x→rs x=none→A' x=A x)∧∀ r R',D r→rs' r=some R'→∃ R,rs r=some R∧R.pv≤R'.pv∧R.sz=R'.sz∧R.own=R'.own∧R.xs.length=R'.xs.length∧A' r []=A r [] ∧
  (R'.pv=R.pv→∀ q s ro ys',QaB R'.sz (!R'.own) R'.xs q=some (s,ro,ys')→∃ ys,QaB R.sz (!R.own) R.xs q=some (s,ro,ys)∧ys.length=ys'.length∧A' r q=A r q)
theorem Qgn.refl (D:Nat→Prop) (A:Nat→Gh) (rs:Rs):Qgn D A rs A rs :=
 ⟨fun _ _ _=>rfl,fun r R' _ h=>⟨R',h,Nat.le_refl _,rfl,rfl,rfl,rfl,fun _ q s ro ys' h'=>⟨ys',h',rfl,rfl⟩⟩⟩
theorem Qgn.kill {D:Nat→Prop} {A:Nat→Gh} {rs rs':Rs} (h:∀ r R,rs' r=some R→rs r=some R):Qgn D A rs A rs' :=
 ⟨fun _ _ _=>rfl,fun r R' _ e=>⟨R',h r R' e,Nat.le_refl _,rfl,rfl,rfl,rfl,fun _ q s ro ys' h'=>⟨ys',h',rfl,rfl⟩⟩⟩
theorem Qgn.arr {D:Nat→Prop} {A A':Nat→Gh} {rs rs':Rs} (h:Qgn D A rs A' rs') {r:Nat} (hD:D r) {R':Qaj} (hr:rs' r=some R') {q:QaO} {pv:Nat}
 (hpv:∀ R,rs r=some R→(q≠[]→pv≤R.pv)) {s:Nat} {ro:Bool} {ys':Els} (ha:R'.arr q pv=some (s,ro,ys')) :
 ∃ R ys,rs r=some R∧R.arr q pv=some (s,ro,ys)∧ys.length=ys'.length∧A' r q=A r q:=by
 obtain ⟨R,h1,h2,h3,h4,h5,h6,h7⟩:=h.2 r R' hD hr
 cases q with
 | nil =>
  simp only [Qaj.arr,Option.some.injEq,Prod.mk.injEq] at ha
  obtain ⟨rfl,rfl,rfl⟩:=ha
  exact ⟨R,R.xs,h1,by simp [Qaj.arr,h3,h4],h5,h6⟩
 | cons p q =>
  simp only [Qaj.arr] at ha
  split at ha
  ·rename_i e
   have:=hpv R h1 (by simp)
   obtain ⟨ys,h8,h9,h10⟩:=h7 (by omega) _ _ _ _ ha
   exact ⟨R,ys,h1,by simp only [Qaj.arr];rw [if_pos (by omega)];exact h8,h9,h10⟩
  ·cases ha
section
variable {D D':Nat→Prop} {A A':Nat→Gh} {rs rs':Rs} {w w':World}
theorem PR.mono (hD:∀ r,D r→D' r) (hle:Qgn D A rs A' rs') (hB:∀ b m,Big w b m→Big w' b m) {av:AV} {v:Value} (h:PR D A rs w av v):PR D' A' rs' w' av v:=by
 unfold PR at *
 split <;> simp only [] at h ⊢ <;> try exact h
 ·obtain ⟨h0,a,cap,h1,h2,hn,h3⟩:=h
  refine ⟨hD _ h0,a,cap,h1,h2,hn,fun R' hR'=>⟨fun hq => ?_,fun s ro ys' ha => ?_⟩⟩
  ·obtain ⟨R,e1,e2,_⟩:=hle.2 _ R' h0 hR'
   exact Nat.le_trans ((h3 R e1).1 hq) e2
  ·obtain ⟨R,ys,e1,e2,e3,e4⟩:=hle.arr h0 hR' (fun R e=>(h3 R e).1) ha
   obtain ⟨hs,hl,hc⟩:=(h3 R e1).2 s ro ys e2
   refine ⟨hs,by omega, ?_⟩
   rcases hc with ⟨c1,c2⟩|⟨b,o,c1,c2,c3,c4⟩
   ·exact .inl ⟨c1,by omega⟩
   ·exact .inr ⟨b,o,by rw [e4];exact c1,c2,hB _ _ c3,by omega⟩
 ·obtain ⟨h0,a,h1,h3⟩:=h
  refine ⟨hD _ h0,a,h1,fun R' hR'=>⟨fun hq => ?_,fun s ro ys' ha el hel => ?_⟩⟩
  ·obtain ⟨R,e1,e2,_⟩:=hle.2 _ R' h0 hR'
   exact Nat.le_trans ((h3 R e1).1 hq) e2
  ·obtain ⟨R,ys,e1,e2,e3,e4⟩:=hle.arr h0 hR' (fun R e=>(h3 R e).1) ha
   have hi:=(List.getElem?_eq_some_iff.1 hel).1
   obtain ⟨b,o,c1,c2⟩:=(h3 R e1).2 s ro ys e2 (ys[_]'(by omega)) (List.getElem?_eq_getElem (by omega))
   exact ⟨b,o,by rw [e4];exact c1,c2⟩
 ·obtain ⟨h0,cap,h1,h3⟩:=h
  refine ⟨hD _ h0,cap,h1,fun R' hR' => ?_⟩
  obtain ⟨R,e1,_,e2,e4,_,e3,_⟩:=hle.2 _ R' h0 hR'
  obtain ⟨g1,b,o,c1,c2⟩:=h3 R e1
  exact ⟨by omega,b,o,by rw [e3];exact c1,by rw [←e4];exact hB _ _ c2⟩
 ·obtain ⟨h0,h1,b,o,h2,h3⟩:=h
  refine ⟨hD _ h0, ?_,b,o,by rw [hle.1 _ h0 h1];exact h2,h3⟩
  cases e:rs' _ with
  | none=>rfl
  | some R'=>obtain ⟨R,e1,_⟩:=hle.2 _ R' h0 e;rw [h1] at e1;cases e1
theorem Pw.mono {α β:Type} {R R':α→β→Prop} (h:∀ x y,R x y→R' x y) {xs:List α} {ys:List β} (p:Pw R xs ys):Pw R' xs ys :=
 ⟨p.1,fun i x hx=>let ⟨y,h1,h2⟩:=p.2 i x hx;⟨y,h1,h x y h2⟩⟩
theorem V1.mono (hD:∀ r,D r→D' r) (hle:Qgn D A rs A' rs') (hB:∀ b m,Big w b m→Big w' b m) {av:AV} {v:Value} (h:V1 D A rs w av v):V1 D' A' rs' w' av v:=by
 unfold V1 at *
 split <;> simp only [] at h ⊢
 ·obtain ⟨a,h1,h2⟩:=h;exact ⟨a,h1,h2.mono fun _ _=>PR.mono hD hle hB⟩
 ·obtain ⟨a,h1,h2⟩:=h;exact ⟨a,h1,h2.mono fun _ _=>PR.mono hD hle hB⟩
 ·exact PR.mono hD hle hB h
def Qll (A:Nat→Gh) (rs:Rs) (w:World) (A':Nat→Gh) (rs':Rs) (w':World):Prop :=
 (∀ b,b<w.heap.size→(∀ r R ρ,rs r=some R→¬R.Key (A r) false ρ b)→w'.heap[b]? = w.heap[b]?) ∧
  ∀ r R ρ b,rs' r=some R→R.Key (A' r) false ρ b→w.heap.size≤b∨∃ r0 R0 ρ0,rs r0=some R0∧R0.Key (A r0) false ρ0 b
theorem Qll.refl (A:Nat→Gh) (rs:Rs) (w:World):Qll A rs w A rs w:=⟨fun _ _ _=>rfl,fun r R ρ b h k => .inr ⟨r,R,ρ,h,k⟩⟩
theorem VR.mono (hD:∀ r,D r→D' r) (hle:Qgn D A rs A' rs') (hB:∀ b m,Big w b m→Big w' b m) (hs:Qll A rs w A' rs' w') {av:AV} {v:Value} (h:VR D A rs w av v):VR D' A' rs' w' av v:=by
 unfold VR at *
 split <;> simp only [] at h ⊢
 ·obtain ⟨a,h1,h2⟩:=h;exact ⟨a,h1,h2.mono fun _ _=>V1.mono hD hle hB⟩
 ·obtain ⟨b,cur,ty,h1,h2,h3,h4⟩:=h
  have hb:b<w.heap.size:=(Array.getElem?_eq_some_iff.1 h2).1
  refine ⟨b,cur,ty,h1,(hs.1 b hb h4).trans h2,h3.mono fun _ _=>PR.mono hD hle hB,fun r R ρ e k => ?_⟩
  rcases hs.2 r R ρ b e k with g|⟨r0,R0,ρ0,g1,g2⟩
  ·omega
  ·exact h4 r0 R0 ρ0 g1 g2
 ·exact V1.mono hD hle hB h
end
structure SR (cx:Cx) (w0:World) (N:Nat) (D:Nat→Prop) (A:Nat→Gh) (tm:Tm) (rs:Rs) (a:Act) (w:World):Prop where
 heap:HR cx w A rs
 tmps:∀ t,VR D A rs w (tm t) (a.tmps.getD t undef)
 ids:∀ r R,rs r=some R→D r
 size:N≤a.tmps.size
 defers:a.defers=[]
 fr:Fr cx w0 w
 big:∀ b n,Big w0 b n→Big w b n
 low:∀ k,k<cx.m0→D k
 kept:∀ k,k<cx.m0→∀ R',rs k=some R'→∃ R,cx.rs0 k=some R∧R.sz=R'.sz∧R.own=R'.own∧R.xs.length=R'.xs.length∧A k []=cx.A0 k []
end Go.Proofs.YtallpjhkmcgpoaaGreat.V
end
section
namespace Go.Proofs.YtallpjhkmcgpoaaGreat.V
open Go
def Qq5:AV→Value→Bool
 | .b x, .bool y=>x == y
 | .i k n, .int k' n'=>decide (k=k') && decide (n=n')
 | .s x, .string y=>decide (x.data=y.data)
 | .nl _, .slice none 0 0=>true
 | _,_=>false
def Qhh:List AV→List Value→Bool
 | [],[]=>true
 | x::xs,v::vs=>Qq5 x v && Qhh xs vs
 | _,_=>false
def QyI:AV→Value→Bool
 | .agg cs, .agg a=>Qhh cs a.toList
 | .undef,_=>true
 | x,v=>Qq5 x v
def xOk:Operand→X→Bool
 | .tmp t, .t n=>t == n
 | .const v, .k av=>QyI av v
 | .func f, .k (.fn g [])=>f == g
 | _,_=>false
def Qlr:List Operand→List X→Bool
 | [],[]=>true
 | x::xs,y::ys=>xOk x y && Qlr xs ys
 | _,_=>false
def Qfo:Option Operand→Option X→Bool
 | none,none=>true
 | some x,some y=>xOk x y
 | _,_=>false
section
variable {D:Nat→Prop} {A:Nat→Gh} {rs:Rs} {w:World}
theorem QiX {x:AV} {v:Value} (h:Qq5 x v=true):PR D A rs w x v:=by
 unfold Qq5 at h
 split at h
 ·simp only [PR];simp at h;rw [h]
 ·simp only [PR];simp at h;rw [h.1,h.2]
 ·simp only [PR]
  rename_i x y
  have:x.data=y.data:=by simpa using h
  cases x;cases y;simp_all
 ·simp only [PR]
 ·cases h
theorem Qhg:∀ {xs:List AV} {vs:List Value}, Qhh xs vs=true→Pw (PR D A rs w) xs vs
 | [],[],_=>⟨rfl,fun i x h=>by simp at h⟩
 | x::xs,v::vs,h=>by
  simp only [Qhh,Bool.and_eq_true] at h
  have ih:=Qhg h.2
  refine ⟨by simp [ih.1],fun i y hy => ?_⟩
  cases i with
  | zero=>simp only [List.getElem?_cons_zero,Option.some.injEq] at hy;subst hy;exact ⟨v,by simp,QiX h.1⟩
  | succ i=>simpa using ih.2 i y (by simpa using hy)
 | [],_::_,h=>by simp [Qhh] at h
 | _::_,[],h=>by simp [Qhh] at h
theorem Qm0 {x:AV} {v:Value} (h:Qq5 x v=true):VR D A rs w x v:=by
 have:=QiX (D:=D) (A:=A) (rs:=rs) (w:=w) h
 unfold Qq5 at h
 split at h <;> first|(cases h;done)|simpa only [VR,V1] using this
theorem Qs7 {x:AV} {v:Value} (h:QyI x v=true):VR D A rs w x v:=by
 unfold QyI at h
 split at h
 ·simp only [VR,V1];exact ⟨_,rfl,Qhg h⟩
 ·simp only [VR,V1,PR]
 ·exact Qm0 h
end
def TR (D:Nat→Prop) (A:Nat→Gh) (rs:Rs) (w:World) (tm:Tm) (a:Act):Prop:=∀ t,VR D A rs w (tm t) (a.tmps.getD t undef)
section
variable {D:Nat→Prop} {A:Nat→Gh} {rs:Rs} {w:World} {tm:Tm} {a:Act}
theorem TR.ev (h:TR D A rs w tm a) {x:Operand} {y:X} (e:xOk x y=true):VR D A rs w (y.ev tm) (a.eval x):=by
 unfold xOk at e
 split at e
 ·simp only [beq_iff_eq] at e;subst e;exact h _
 ·exact Qs7 e
 ·simp only [beq_iff_eq] at e;subst e;simp only [X.ev,Act.eval,VR,V1];exact ⟨#[],rfl,rfl,fun i x h=>by simp at h⟩
 ·cases e
theorem TR.evs (h:TR D A rs w tm a):∀ {xs:List Operand} {ys:List X}, Qlr xs ys=true→Pw (VR D A rs w) (ys.map (·.ev tm)) (xs.map a.eval)
 | [],[],_=>⟨rfl,fun i x h=>by simp at h⟩
 | x::xs,y::ys,e=>by
  simp only [Qlr,Bool.and_eq_true] at e
  have ih:=TR.evs h e.2
  refine ⟨by simp [ih.1],fun i z hz => ?_⟩
  cases i with
  | zero=>simp only [List.map_cons,List.getElem?_cons_zero,Option.some.injEq] at hz;subst hz;exact ⟨_,by simp,h.ev e.1⟩
  | succ i=>simpa using ih.2 i z (by simpa using hz)
 | [],_::_,e=>by simp [Qlr] at e
 | _::_,[],e=>by simp [Qlr] at e
theorem VR.int {k:IntKind} {n:Int} {v:Value} (h:VR D A rs w (.i k n) v):v = .int k n:=by simpa only [VR,V1,PR] using h
theorem VR.bool {x:Bool} {v:Value} (h:VR D A rs w (.b x) v):v = .bool x:=by simpa only [VR,V1,PR] using h
theorem VR.str {x:ByteArray} {v:Value} (h:VR D A rs w (.s x) v):v = .string x:=by simpa only [VR,V1,PR] using h
theorem VR.nl {sz:Nat} {v:Value} (h:VR D A rs w (.nl sz) v):v = .slice none 0 0:=by simpa only [VR,V1,PR] using h
theorem VR.mb {v:Value} (h:VR D A rs w .mb v):∃ x,v = .bool x:=by simpa only [VR,V1,PR] using h
theorem VR.agg {cs:List AV} {v:Value} (h:VR D A rs w (.agg cs) v):∃ c,v = .agg c∧Pw (PR D A rs w) cs c.toList:=by simpa only [VR,V1] using h
theorem VR.tup {cs:List AV} {v:Value} (h:VR D A rs w (.tup cs) v):∃ c,v = .tuple c∧Pw (V1 D A rs w) cs c.toList:=by simpa only [VR] using h
theorem VR.fn {f:Nat} {cs:List AV} {v:Value} (h:VR D A rs w (.fn f cs) v):∃ c,v = .func (.func f) #[] c∧Pw (PR D A rs w) cs c.toList:=by simpa only [VR,V1] using h
theorem VR.slc {r:Nat} {q:QaO} {pv sz off len:Nat} {v:Value} (h:VR D A rs w (.slc r q pv sz off len) v):PR D A rs w (.slc r q pv sz off len) v:=by simpa only [VR,V1] using h
theorem VR.ptr {r:Nat} {q:QaO} {pv i c:Nat} {v:Value} (h:VR D A rs w (.ptr r q pv i c) v):PR D A rs w (.ptr r q pv i c) v:=by simpa only [VR,V1] using h
theorem V1.vr {x:AV} {v:Value} (h:V1 D A rs w x v):VR D A rs w x v:=by
 unfold VR
 split
 ·simp only [V1,PR] at h
 ·simp only [V1,PR] at h
 ·exact h
theorem PR.v1 {x:AV} {v:Value} (h:PR D A rs w x v):V1 D A rs w x v:=by
 unfold V1
 split
 ·simp only [PR] at h
 ·simp only [PR] at h
 ·exact h
theorem PR.vr {x:AV} {v:Value} (h:PR D A rs w x v):VR D A rs w x v:=h.v1.vr
theorem VR.cells {x:AV} {v:Value} (h:VR D A rs w x v) (hf:∀ f cs,x ≠ .fn f cs) (ht:∀ vs,x ≠ .tup vs) (hu:x ≠ .undef) (hb:∀ cs c,x ≠ .bx cs c):Pw (PR D A rs w) x.cells v.cells.toList:=by
 cases x with
 | agg cs=>obtain ⟨c,rfl,hp⟩:=h.agg;exact hp
 | fn f cs=>exact absurd rfl (hf f cs)
 | tup vs=>exact absurd rfl (ht vs)
 | undef=>exact absurd rfl hu
 | bx cs c=>exact absurd rfl (hb cs c)
 | deep p bo sz xs=>simp only [VR,V1,PR] at h
 | mb=>obtain ⟨y,rfl⟩:=h.mb;exact ⟨rfl,fun i x hx=>by cases i <;> simp [AV.cells] at hx;subst hx;exact ⟨_,by simp [Value.cells],⟨y,rfl⟩⟩⟩
 | b x=>cases h.bool;exact ⟨rfl,fun i x hx=>by cases i <;> simp [AV.cells] at hx;subst hx;exact ⟨_,by simp [Value.cells],rfl⟩⟩
 | i k n=>cases h.int;exact ⟨rfl,fun i x hx=>by cases i <;> simp [AV.cells] at hx;subst hx;exact ⟨_,by simp [Value.cells],rfl⟩⟩
 | s x=>cases h.str;exact ⟨rfl,fun i x hx=>by cases i <;> simp [AV.cells] at hx;subst hx;exact ⟨_,by simp [Value.cells],rfl⟩⟩
 | nl sz=>cases h.nl;exact ⟨rfl,fun i x hx=>by cases i <;> simp [AV.cells] at hx;subst hx;exact ⟨_,by simp [Value.cells],rfl⟩⟩
 | slc r q pv sz off len =>
  obtain ⟨h0,a,cap,rfl,h2⟩:=h.slc
  exact ⟨rfl,fun i x hx=>by cases i <;> simp [AV.cells] at hx;subst hx;exact ⟨_,by simp [Value.cells],h0,a,cap,rfl,h2⟩⟩
 | ptr r q pv i c =>
  obtain ⟨h0,a,rfl,h2⟩:=h.ptr
  exact ⟨rfl,fun i x hx=>by cases i <;> simp [AV.cells] at hx;subst hx;exact ⟨_,by simp [Value.cells],h0,a,rfl,h2⟩⟩
 | cv k r off sz n =>
  have h':PR D A rs w (.cv k r off sz n) v:=by simpa only [VR,V1] using h
  have hv:v.cells = #[v]:=by
   obtain ⟨_,cap,h1,_⟩:=h'
   split at h1
   ·subst h1;rfl
   ·subst h1;rfl
   ·obtain ⟨rfl,_⟩:=h1;rfl
   ·obtain ⟨rfl,_⟩:=h1;rfl
  rw [hv]
  exact ⟨rfl,fun i x hx=>by cases i <;> simp [AV.cells] at hx;subst hx;exact ⟨v,by simp,h'⟩⟩
 | vp x c =>
  have h':PR D A rs w (.vp x c) v:=by simpa only [VR,V1] using h
  obtain ⟨h0,h1,b,o,h2,rfl⟩:=h'
  exact ⟨rfl,fun i x hx=>by cases i <;> simp [AV.cells] at hx;subst hx;exact ⟨_,by simp [Value.cells],h0,h1,b,o,h2,rfl⟩⟩
end
end Go.Proofs.YtallpjhkmcgpoaaGreat.V
end
section
namespace Go.Proofs.YtallpjhkmcgpoaaGreat.V
open Go
def Qen (P:Program) (t n:Nat):Bool:=(P.info? t).any fun i=>i.size == n
def QiH (P:Program) (t:Nat):Option Nat:=match P.underlying t with|some (.slice e)=>some e|_=>none
def QfW (P:Program) (t:Nat):Option Bool:=match P.underlying t with|some (.struct _)|some (.array _ _)=>some true|some _=>some false|none=>none
def QcF (P:Program) (t:Nat):Option Nat→Bool
 | none=>QfW P t == some false
 | some n=>QfW P t == some true && Qen P t n
def Qj0 (P:Program) (t k:Nat):Bool:=match P.underlying t,k with|some (.int _),0=>true|some .bool,1=>true|some .string,2=>true|_,_=>false
def QeZ (P:Program):List Field→Nat→List Nat→Bool
 | [],_,[]=>true
 | f::fs,j,k::ks=>f.offset == j && f.name != "_" && Qj0 P f.type k && QfW P f.type == some false && QeZ P fs (j+1) ks
 | _,_,_=>false
def QeQ (P:Program) (t:Nat) (ks:List Nat):Bool :=
 match P.underlying t with
 | some (.struct fs)=>QeZ P fs.toList 0 ks && P.stoodInHeld t == false && P.eqGuardType P.depth t == false
 | _=>false
def Qjf (P:Program) (t kd:Nat):Bool :=
 match kd with
 | 0=>true
 | 1=>match P.underlying t with|some .bool=>true|_=>false
 | 2=>(QiH P t).isSome
 | _=>false
theorem QV {P:Program} {t:Nat} {d:TypeDesc} (h:P.underlying t=some d) (w:World):(underlying t).run P w = .ok d w:=by
 simp [underlying,h]
theorem Qbf {P:Program} {t:Nat} {d:TypeInfo} (h:P.info? t=some d) (w:World):(typeInfo t).run P w = .ok d w:=by
 simp [typeInfo,h]
theorem Qa9 {P:Program} {t n:Nat} (h:Qen P t n=true) (w:World):(sizeOf t).run P w = .ok n w:=by
 unfold Qen at h
 cases e:P.info? t with
 | none=>simp [e] at h
 | some d=>simp [e] at h;simp [sizeOf,Qbf e,h]
theorem QcS {P:Program} {t:Nat} {x:Bool} (h:QfW P t=some x) (w:World):(isAgg t).run P w = .ok x w:=by
 unfold QfW at h
 unfold isAgg
 split at h <;> first
  | (cases h;done)
  | (rename_i e;injection h with h;subst h;simp [QV e])
  | (rename_i d _ _ e;injection h with h;subst h;simp only [Sem.run_bind,QV e,Result.andThen_ok];split <;> simp_all)
section
variable {P:Program} {D:Nat→Prop} {A:Nat→Gh} {rs:Rs} {w:World} {tm:Tm} {a:Act} {o:Oper}
def QaA (P:Program) (a:Act) (o:Oper) (w:World) (v:Value):Prop:=(execOp a.eval o).run P w = .ok (.value v) w
theorem Qjr (h:TR D A rs w tm a) {x:Operand} {y:X} (ho:o.op = .move x∨o.op = .assign x) (hx:xOk x y=true) :
 ∃ v,QaA P a o w v∧VR D A rs w (y.ev tm) v:=by
 refine ⟨a.eval x, ?_,h.ev hx⟩
 rcases ho with ho|ho <;> simp [QaA,execOp,ho]
theorem QoN (h:TR D A rs w tm a) {c x y:Operand} {c' x' y':X} (ho:o.op = .pick c x y) (hc:xOk c c'=true) (hx:xOk x x'=true) (hy:xOk y y'=true) {t:Bool}
 (e:c'.ev tm = .b t):∃ v,QaA P a o w v∧VR D A rs w (if t then x'.ev tm else y'.ev tm) v:=by
 have h1:=h.ev hc
 rw [e] at h1
 refine ⟨if t then a.eval x else a.eval y,by simp [QaA,execOp,ho,h1.bool,asBool], ?_⟩
 cases t
 ·exact h.ev hy
 ·exact h.ev hx
theorem QhO (h:TR D A rs w tm a) {x:Operand} {x':X} (ho:o.op = .nilCheck x) (hx:xOk x x'=true) {r:Nat} {q:QaO} {pv i c:Nat}
 (e:x'.ev tm = .ptr r q pv i c):∃ v,QaA P a o w v∧VR D A rs w (.ptr r q pv i c) v:=by
 have h1:=h.ev hx
 rw [e] at h1
 refine ⟨a.eval x, ?_,h1⟩
 obtain ⟨h0,ad,h2,h3⟩:=h1.ptr
 simp [QaA,execOp,ho,h2]
theorem QiK (h:TR D A rs w tm a) {x:Operand} {x':X} (ho:o.op = .nilCheck x) (hx:xOk x x'=true) {f:Nat} {cs:List AV}
 (e:x'.ev tm = .fn f cs):∃ v,QaA P a o w v∧VR D A rs w (.fn f cs) v:=by
 have h1:=h.ev hx
 rw [e] at h1
 refine ⟨a.eval x, ?_,h1⟩
 obtain ⟨c,h2,h3⟩:=h1.fn
 simp [QaA,execOp,ho,h2]
theorem QiL (h:TR D A rs w tm a) {x:Operand} {x':X} (ho:o.op = .nilCheck x) (hx:xOk x x'=true) {cs:List AV} {c:Nat}
 (e:x'.ev tm = .bx cs c):∃ v,QaA P a o w v∧VR D A rs w (.bx cs c) v:=by
 have h1:=h.ev hx
 rw [e] at h1
 refine ⟨a.eval x, ?_,h1⟩
 simp only [VR] at h1
 obtain ⟨b,cur,ty,h2,h3⟩:=h1
 simp [QaA,execOp,ho,h2]
theorem Qhy (x y:ByteArray):(x.toList == y.toList)=decide (x=y):=by
 rw [←beq_toListBytes]
 obtain ⟨⟨x⟩⟩:=x
 obtain ⟨⟨y⟩⟩:=y
 show ((⟨x⟩:Array UInt8) == ⟨y⟩)=_
 by_cases e:x=y
 ·subst e;simp
 ·have:(⟨⟨x⟩⟩:ByteArray)≠⟨⟨y⟩⟩:=fun h=>by injection h with h;injection h with h;exact e h
  simp [this,e]
theorem QhG {k:IntKind} {n:Int} : VR D A rs w (.i k n) (.int k n):=by simp only [VR,V1,PR]
theorem QiC {x:Bool} : VR D A rs w (.b x) (.bool x):=by simp only [VR,V1,PR]
theorem Qyd {x:ByteArray} : VR D A rs w (.s x) (.string x):=by simp only [VR,V1,PR]
theorem QhQ {op:BinOp} {t:Nat} {k:IntKind} {n m:Int} {r:AV} (hs:QbF op=false) (he:QbD op k n m=some r) :
 ∃ z,(binOp op t (.int k n) (.int k m)).run P w = .ok z w∧VR D A rs w r z:=by
 cases op with
 | add=>simp only [QbD,Option.some.injEq] at he;subst he;exact ⟨.int k _,by simp [binOp,Op.intArith],QhG⟩
 | sub=>simp only [QbD,Option.some.injEq] at he;subst he;exact ⟨.int k _,by simp [binOp,Op.intArith],QhG⟩
 | mul=>simp only [QbD,Option.some.injEq] at he;subst he;exact ⟨.int k _,by simp [binOp,Op.intArith],QhG⟩
 | quo =>
  simp only [QbD] at he
  split at he
  ·cases he
  ·rename_i h0;injection he with he;subst he;exact ⟨.int k _,by simp [binOp,Op.intDiv,h0],QhG⟩
 | rem =>
  simp only [QbD] at he
  split at he
  ·cases he
  ·rename_i h0;injection he with he;subst he;exact ⟨.int k _,by simp [binOp,Op.intDiv,h0],QhG⟩
 | and=>simp only [QbD,Option.some.injEq] at he;subst he;exact ⟨.int k _,by simp only [binOp,Op.intBits,ne_eq,not_true_eq_false,if_false];rfl,QhG⟩
 | or=>simp only [QbD,Option.some.injEq] at he;subst he;exact ⟨.int k _,by simp only [binOp,Op.intBits,ne_eq,not_true_eq_false,if_false];rfl,QhG⟩
 | xor=>simp only [QbD,Option.some.injEq] at he;subst he;exact ⟨.int k _,by simp only [binOp,Op.intBits,ne_eq,not_true_eq_false,if_false];rfl,QhG⟩
 | andNot=>simp [QbD,QkF] at he
 | shl=>simp [QbF] at hs
 | shr=>simp [QbF] at hs
 | eql=>simp only [QbD,QkF,Option.map_some,Option.some.injEq] at he;subst he;exact ⟨.bool _,by simp only [binOp,Op.intCmp,ne_eq,not_true_eq_false,if_false];rfl,QiC⟩
 | neq=>simp only [QbD,QkF,Option.map_some,Option.some.injEq] at he;subst he;exact ⟨.bool _,by simp only [binOp,Op.intCmp,ne_eq,not_true_eq_false,if_false];rfl,QiC⟩
 | lss=>simp only [QbD,QkF,Option.map_some,Option.some.injEq] at he;subst he;exact ⟨.bool _,by simp only [binOp,Op.intCmp,ne_eq,not_true_eq_false,if_false];rfl,QiC⟩
 | leq=>simp only [QbD,QkF,Option.map_some,Option.some.injEq] at he;subst he;exact ⟨.bool _,by simp only [binOp,Op.intCmp,ne_eq,not_true_eq_false,if_false];rfl,QiC⟩
 | gtr=>simp only [QbD,QkF,Option.map_some,Option.some.injEq] at he;subst he;exact ⟨.bool _,by simp only [binOp,Op.intCmp,ne_eq,not_true_eq_false,if_false];rfl,QiC⟩
 | geq=>simp only [QbD,QkF,Option.map_some,Option.some.injEq] at he;subst he;exact ⟨.bool _,by simp only [binOp,Op.intCmp,ne_eq,not_true_eq_false,if_false];rfl,QiC⟩
theorem Ql0 {op:BinOp} {t:Nat} {k k':IntKind} {n m:Int} {r:AV} (hs:QbF op=true) (he:QiA op k n m=some r) :
 ∃ z,(binOp op t (.int k n) (.int k' m)).run P w = .ok z w∧VR D A rs w r z:=by
 unfold QiA at he
 split at he
 ·cases he
 ·rename_i hm
  cases op <;> simp [QbF] at hs
  ·simp only [Option.some.injEq] at he;subst he;exact ⟨.int k _,by simp [binOp,Op.shift,hm],QhG⟩
  ·simp only [Option.some.injEq] at he;subst he;exact ⟨.int k _,by simp [binOp,Op.shift,hm],QhG⟩
theorem Qi4 {op:BinOp} {t:Nat} {u v:Value} (X Y:Operand) (h1:∀ c,u ≠ .agg c) (h2:u ≠ .nilIface):(eqGuard op t X Y u v).run P w = .ok () w:=by
 unfold eqGuard
 cases u <;> first
  | exact absurd rfl (h1 _)
  | exact absurd rfl h2
  | (split <;> simp)
theorem Qg3 {t e:Nat} (h:QiH P t=some e):P.underlying t=some (.slice e):=by
 unfold QiH at h
 split at h
 ·injection h with h;subst h;assumption
 ·cases h
theorem QeE {t:Nat} (d:Nat) (x y:Bool) (h:P.underlying t=some .bool):(Op.equalIn (d+1) t (.bool x) (.bool y)).run P w = .ok (x == y) w:=by
 simp only [Op.equalIn,Sem.run_bind,QV h,Result.andThen_ok,Sem.run_pure]
theorem QgN {t:Nat} (x y:Bool) (h:P.underlying t=some .bool):(Op.equal t (.bool x) (.bool y)).run P w = .ok (x == y) w:=QeE 9999 x y h
theorem Qgk {t e:Nat} (d:Nat) (a b:Option Addr) (m c m' c':Nat) (hn:a=none∨b=none) (h:P.underlying t=some (.slice e)) :
 (Op.equalIn (d+1) t (.slice a m c) (.slice b m' c')).run P w = .ok (a.isNone && b.isNone) w:=by
 rcases hn with rfl|rfl
 ·simp only [Op.equalIn,Sem.run_bind,QV h,Result.andThen_ok,Sem.run_pure,Option.isNone_none,Bool.true_and]
 ·cases a <;> simp only [Op.equalIn,Sem.run_bind,QV h,Result.andThen_ok,Sem.run_pure,Option.isNone_none,Option.isNone_some,Bool.true_and,Bool.false_and]
theorem QdA {t e:Nat} (a b:Option Addr) (m c m' c':Nat) (hn:a=none∨b=none) (h:P.underlying t=some (.slice e)) :
 (Op.equal t (.slice a m c) (.slice b m' c')).run P w = .ok (a.isNone && b.isNone) w:=Qgk 9999 a b m c m' c' hn h
theorem Qb4 {op:BinOp} {t:Nat} {u v:Value} (X Y:Operand) (h1:∀ c,u ≠ .agg c) (h2:u ≠ .nilIface) :
 ((do eqGuard op t X Y u v;binOp op t u v):Sem Value).run P w=(binOp op t u v).run P w:=by
 simp only [Sem.run_bind,Qi4 (P:=P) (w:=w) (op:=op) (t:=t) (u:=u) (v:=v) X Y h1 h2,Result.andThen_ok]
theorem QgT {t kd:Nat} {x:Bool} (h:Qjf P t kd=true) (hf:Qby kd (.b x)=true):P.underlying t=some .bool:=by
 simp only [Qby,beq_iff_eq] at hf;subst hf
 simp only [Qjf] at h
 split at h
 ·assumption
 ·cases h
theorem QeJ {t kd:Nat} {av:AV} (h:Qjf P t kd=true) (hf:Qby kd av=true) (ha:(∃ sz,av = .nl sz)∨∃ r q pv sz off len,av = .slc r q pv sz off len):∃ e,P.underlying t=some (.slice e):=by
 have hk:kd=2:=by
  rcases ha with ⟨sz,rfl⟩|⟨r,q,pv,sz,off,len,rfl⟩ <;> simpa only [Qby,beq_iff_eq] using hf
 subst hk
 simp only [Qjf,Option.isSome_iff_exists] at h
 obtain ⟨e,h⟩:=h
 exact ⟨e,Qg3 h⟩
theorem QsL {op:BinOp} {t:Nat} {x y r:AV} {u v:Value} {kd:Nat} (hok:Qjf P t kd=true) (hf:Qby kd x=true) (hx:VR D A rs w x u) (hy:VR D A rs w y v) (X Y:Operand)
 (he:QeM op x y=some r):∃ z,((do eqGuard op t X Y u v;binOp op t u v):Sem Value).run P w = .ok z w∧VR D A rs w r z:=by
 unfold QeM at he
 split at he
 ·cases hx.int;cases hy.int
  rw [Qb4 X Y (fun c h=>by cases h) (fun h=>by cases h)]
  split at he
  ·rename_i hs;exact Ql0 hs he
  ·rename_i hs
   split at he
   ·rename_i hk;subst hk;exact QhQ (by simpa using hs) he
   ·cases he
 ·cases hx.bool;cases hy.bool
  rw [Qb4 X Y (fun c h=>by cases h) (fun h=>by cases h)]
  split at he
  ·injection he with he;subst he
   exact ⟨.bool _,by simp only [binOp,Sem.run_bind,QgN _ _ (QgT hok hf),Result.andThen_ok];rfl,QiC⟩
  ·injection he with he;subst he
   exact ⟨.bool _,by simp only [binOp,Sem.run_bind,QgN _ _ (QgT hok hf),Result.andThen_ok];rfl,QiC⟩
  ·cases he
 ·cases hx.str;cases hy.str
  rw [Qb4 X Y (fun c h=>by cases h) (fun h=>by cases h)]
  split at he
  ·split at he
   ·rename_i hl
    injection he with he;subst he
    refine ⟨.string _, ?_,Qyd⟩
    have big:∀ n:Nat,n≤9223372036854775807→¬((n:Int) > IntKind.i64.max):=fun n hl=>Int.not_lt.2 (Int.le_trans (Int.ofNat_le.2 hl) (by decide))
    simp only [binOp,Op.stringOp]
    rw [if_neg (big _ hl)]
    rfl
   ·cases he
  ·injection he with he;subst he
   exact ⟨.bool _,by simp only [binOp,Op.stringOp,Qhy];rfl,QiC⟩
  ·injection he with he;subst he
   exact ⟨.bool _,by simp only [binOp,Op.stringOp,Qhy];rfl,QiC⟩
  ·cases he
 ·rename_i r0 q pv sz off len sz'
  cases hy.nl
  obtain ⟨h0,ad,cap,rfl,h2,hn,h3⟩:=hx.slc
  rw [Qb4 X Y (fun c h=>by cases h) (fun h=>by cases h)]
  have hz:0<len→ad.isNone=false:=fun hl=>by
   cases ad with
   | none=>have:=hn rfl;omega
   | some _=>rfl
  split at he
  ·obtain ⟨e,hu⟩:=QeJ hok hf (.inr ⟨_,_,_,_,_,_,rfl⟩)
   injection he with he;subst he
   refine ⟨.bool (ad.isNone && true),by simp only [binOp,Sem.run_bind,QdA _ _ _ _ _ _ (.inr rfl) hu,Result.andThen_ok];rfl, ?_⟩
   unfold QiZ
   split
   ·rename_i hl;rw [hz hl];exact QiC
   ·simp only [VR,V1,PR];exact ⟨_,rfl⟩
  ·obtain ⟨e,hu⟩:=QeJ hok hf (.inr ⟨_,_,_,_,_,_,rfl⟩)
   refine ⟨.bool (!(ad.isNone && true)),by simp only [binOp,Sem.run_bind,QdA _ _ _ _ _ _ (.inr rfl) hu,Result.andThen_ok];rfl, ?_⟩
   unfold QiZ at he
   split at he
   ·rename_i hl;simp only [Qmv,Option.some.injEq] at he;subst he;rw [hz hl];exact QiC
   ·simp only [Qmv,Option.some.injEq] at he;subst he;simp only [VR,V1,PR];exact ⟨_,rfl⟩
  ·cases he
 ·cases hx.nl;cases hy.nl
  rw [Qb4 X Y (fun c h=>by cases h) (fun h=>by cases h)]
  split at he
  ·obtain ⟨e,hu⟩:=QeJ hok hf (.inl ⟨_,rfl⟩)
   injection he with he;subst he
   exact ⟨.bool true,by simp only [binOp,Sem.run_bind,QdA _ _ _ _ _ _ (.inr rfl) hu,Result.andThen_ok];rfl,QiC⟩
  ·obtain ⟨e,hu⟩:=QeJ hok hf (.inl ⟨_,rfl⟩)
   injection he with he;subst he
   exact ⟨.bool false,by simp only [binOp,Sem.run_bind,QdA _ _ _ _ _ _ (.inr rfl) hu,Result.andThen_ok];rfl,QiC⟩
  ·cases he
 ·rename_i k n r1 off sz m
  cases hx.int
  have h':PR D A rs w (.cv 0 r1 off sz m) v:=by simpa only [VR,V1] using hy
  obtain ⟨hD,cap,hv,hcap⟩:=h'
  simp only at hv
  subst hv
  rw [Qb4 X Y (fun c h=>by cases h) (fun h=>by cases h)]
  split at he
  ·split at he
   ·rename_i hc
    injection he with he;subst he
    obtain ⟨rfl,hn⟩:=hc
    obtain ⟨z,h1,h2⟩:=QhQ (P:=P) (D:=D) (A:=A) (rs:=rs) (w:=w) (op := .gtr) (t:=t) (k := .i64) (n:=n) (m:=(cap:Int)) (r := .b (decide ((cap:Int)<n))) (by rfl) rfl
    refine ⟨z,h1, ?_⟩
    have h3:=h2.bool
    subst h3
    simp only [VR,V1,PR]
    refine ⟨hD,cap, ?_,hcap⟩
    congr 1
    rw [Bool.eq_iff_iff,decide_eq_true_eq,decide_eq_true_eq]
    omega
   ·cases he
  ·cases he
 ·cases he
end
end Go.Proofs.YtallpjhkmcgpoaaGreat.V
end
section
namespace Go.Proofs.YtallpjhkmcgpoaaGreat.V
open Go
theorem QcR (b o n:Nat):(⟨b,o,none⟩:Addr).add n=⟨b,o+n,none⟩:=by unfold Addr.add;split <;> simp_all
section
variable {P:Program} {D:Nat→Prop} {A:Nat→Gh} {rs:Rs} {w:World} {tm:Tm} {a:Act} {o:Oper}
theorem QsH (h:TR D A rs w tm a) {op:BinOp} {t t' kd:Nat} {x y:Operand} {x' y':X} (ho:o.op = .binOp op t x y t') (hx:xOk x x'=true) (hy:xOk y y'=true)
 (hok:Qjf P t kd=true) (hf:Qby kd (x'.ev tm)=true) {r:AV} (he:QeM op (x'.ev tm) (y'.ev tm)=some r):∃ v,QaA P a o w v∧VR D A rs w r v:=by
 obtain ⟨z,h1,h2⟩:=QsL (P:=P) hok hf (h.ev hx) (h.ev hy) x y he
 exact ⟨z,by simp only [QaA,execOp,ho];simp only [Sem.run_bind] at h1 ⊢; rw [h1];rfl,h2⟩
theorem QuU (h:TR D A rs w tm a) {op:UnOp} {t:Nat} {x:Operand} {x':X} (ho:o.op = .unOp op t x) (hx:xOk x x'=true)
 {r:AV} (he:aUn op (x'.ev tm)=some r):∃ v,QaA P a o w v∧VR D A rs w r v:=by
 have h1:=h.ev hx
 unfold aUn at he
 split at he
 ·rename_i e;rw [e] at h1
  split at he
  ·injection he with he;subst he;exact ⟨.bool _,by simp [QaA,execOp,ho,h1.bool,Op.unary],QiC⟩
  ·cases he
 ·rename_i e;rw [e] at h1
  obtain ⟨y,hy⟩:=h1.mb
  split at he
  ·injection he with he;subst he;exact ⟨.bool (!y),by simp [QaA,execOp,ho,hy,Op.unary],by simp only [VR,V1,PR];exact ⟨_,rfl⟩⟩
  ·cases he
 ·rename_i e;rw [e] at h1
  split at he
  ·injection he with he;subst he;exact ⟨.int _ _,by simp only [QaA,execOp,ho,h1.int,Op.unary,Op.intArith];rfl,QhG⟩
  ·cases he
 ·cases he
theorem Pw.get {α β:Type} {R:α→β→Prop} {xs:List α} {ys:List β} (h:Pw R xs ys) {i:Nat} {x:α} (hx:xs[i]? = some x):∃ y,ys[i]? = some y∧R x y:=h.2 i x hx
theorem Pw.nil {α β:Type} {R:α→β→Prop} : Pw R ([]:List α) ([]:List β):=⟨rfl,fun i x h=>by simp at h⟩
theorem Pw.cons {α β:Type} {R:α→β→Prop} {x:α} {y:β} {xs:List α} {ys:List β} (h:R x y) (t:Pw R xs ys):Pw R (x::xs) (y::ys) :=
 ⟨by simp [t.1],fun i z hz=>by
  cases i with
  | zero=>simp only [List.getElem?_cons_zero,Option.some.injEq] at hz;subst hz;exact ⟨y,by simp,h⟩
  | succ i=>simpa using t.2 i z (by simpa using hz)⟩
theorem Pw.head {α β:Type} {R:α→β→Prop} {x:α} {xs:List α} {ys:List β} (h:Pw R (x::xs) ys):∃ y ys',ys=y::ys'∧R x y∧Pw R xs ys':=by
 cases ys with
 | nil=>have:=h.1;simp at this
 | cons y ys =>
  obtain ⟨z,h1,h2⟩:=h.2 0 x rfl
  simp only [List.getElem?_cons_zero,Option.some.injEq] at h1;subst h1
  exact ⟨y,ys,rfl,h2,by simpa using h.1,fun i z hz=>by simpa using h.2 (i+1) z (by simpa using hz)⟩
theorem Pw.nil_inv {α β:Type} {R:α→β→Prop} {ys:List β} (h:Pw R ([]:List α) ys):ys=[]:=List.eq_nil_of_length_eq_zero h.1.symm
theorem Pw.app {α β:Type} {R:α→β→Prop} : ∀ {xs:List α} {ys:List β} {xs':List α} {ys':List β}, Pw R xs ys→Pw R xs' ys'→Pw R (xs++xs') (ys++ys')
 | [],ys,xs',ys',h,h'=>by rw [h.nil_inv];simpa using h'
 | x::xs,ys,xs',ys',h,h'=>by
  obtain ⟨y,ys2,rfl,h1,h2⟩:=h.head
  simpa using Pw.cons h1 (Pw.app h2 h')
theorem Pw.set {α β:Type} {R:α→β→Prop} {xs:List α} {ys:List β} (h:Pw R xs ys) {x:α} {y:β} (hr:R x y) (i:Nat):Pw R (xs.set i x) (ys.set i y) :=
 ⟨by simp [h.1],fun j z hz=>by
  by_cases e:i=j
  ·subst e
   by_cases hi:i<xs.length
   ·rw [List.getElem?_set_self hi] at hz;injection hz with hz;subst hz
    exact ⟨y,by rw [List.getElem?_set_self (h.1▸hi)],hr⟩
   ·rw [List.getElem?_eq_none (by simp;omega)] at hz;cases hz
  ·rw [List.getElem?_set_ne e] at hz ⊢; exact h.2 j z hz⟩
theorem Pw.drop {α β:Type} {R:α→β→Prop} {xs:List α} {ys:List β} (h:Pw R xs ys) (n:Nat):Pw R (xs.drop n) (ys.drop n) :=
 ⟨by simp [h.1],fun j z hz=>by rw [List.getElem?_drop] at hz ⊢; exact h.2 _ z hz⟩
theorem Pw.take {α β:Type} {R:α→β→Prop} {xs:List α} {ys:List β} (h:Pw R xs ys) (n:Nat):Pw R (xs.take n) (ys.take n) :=
 ⟨by simp [h.1],fun j z hz=>by
  rw [List.getElem?_take] at hz ⊢
  split at hz
  ·rename_i hl;rw [if_pos hl];exact h.2 _ z hz
  ·cases hz⟩
theorem Qjw {t off:Nat} {n:Option Nat} (hp:QcF P t n=true) {cs:List AV} {c:Array Value} (h:Pw (PR D A rs w) cs c.toList) {r:AV} (he:Qd1 cs off n=some r) :
 ∃ v,(part t c off).run P w = .ok v w∧VR D A rs w r v:=by
 cases n with
 | none =>
  simp only [QcF,beq_iff_eq] at hp
  simp only [Qd1] at he
  obtain ⟨v,h1,h2⟩:=h.get he
  rw [Array.getElem?_toList] at h1
  exact ⟨v,by simp only [part,Sem.run_bind,QcS hp,Result.andThen_ok,Bool.false_eq_true,if_false,h1,Sem.run_pure],h2.vr⟩
 | some n =>
  simp only [QcF,Bool.and_eq_true,beq_iff_eq] at hp
  simp only [Qd1] at he
  split at he
  ·rename_i hl
   injection he with he;subst he
   refine ⟨.agg (c.extract off (off+n)),by simp only [part,Sem.run_bind,QcS hp.1,Qa9 hp.2,Result.andThen_ok,if_true,Sem.run_pure], ?_⟩
   simp only [VR,V1]
   refine ⟨_,rfl, ?_⟩
   have:=(h.drop off).take n
   have e:(c.extract off (off+n)).toList=(c.toList.drop off).take n:=by simp [Array.toList_extract,List.extract_eq_take_drop]
   rw [e];exact this
  ·cases he
theorem QlQ (h:TR D A rs w tm a) {t f off:Nat} {n:Option Nat} {x:Operand} {x':X} (ho:o.op = .field t x f) (hx:xOk x x'=true)
 {fs:Array Field} {fd:Field} (ht:P.underlying t=some (.struct fs)) (hf:fs[f]? = some fd) (hoff:fd.offset=off) (hp:QcF P fd.type n=true)
 {cs:List AV} (e:x'.ev tm = .agg cs) {r:AV} (he:Qd1 cs off n=some r):∃ v,QaA P a o w v∧VR D A rs w r v:=by
 have h1:=h.ev hx
 rw [e] at h1
 obtain ⟨c,h2,h3⟩:=h1.agg
 subst hoff
 obtain ⟨v,h4,h5⟩:=Qjw (P:=P) hp h3 he
 exact ⟨v,by simp only [QaA,execOp,ho,h2,Instr.field,Sem.run_bind,QV ht,Result.andThen_ok,hf,asAgg,Sem.run_pure,h4],h5⟩
theorem QsC (h:TR D A rs w tm a) {j:Nat} {x:Operand} {x':X} (ho:o.op = .extract x j) (hx:xOk x x'=true)
 {vs:List AV} (e:x'.ev tm = .tup vs) {r:AV} (he:vs[j]? = some r):∃ v,QaA P a o w v∧VR D A rs w r v:=by
 have h1:=h.ev hx
 rw [e] at h1
 obtain ⟨c,h2,h3⟩:=h1.tup
 obtain ⟨v,h4,h5⟩:=h3.get he
 rw [Array.getElem?_toList] at h4
 exact ⟨v,by simp only [QaA,execOp,ho,h2,Instr.extract,h4,Sem.run_bind,Sem.run_pure,Result.andThen_ok],h5.vr⟩
theorem QoQ (h:TR D A rs w tm a) {t:Nat} {x j:Operand} {x' j':X} (ho:o.op = .index t x j) (hx:xOk x x'=true) (hj:xOk j j'=true) (ht:P.underlying t=some .string)
 {s:ByteArray} {k:IntKind} {n:Int} (e:x'.ev tm = .s s) (e':j'.ev tm = .i k n) (h0:0≤n) (hn:n<s.size) :
 ∃ v,QaA P a o w v∧VR D A rs w (.i .u8 ((s.toList.getD n.toNat 0).toNat:Nat)) v:=by
 have h1:=h.ev hx
 have h2:=h.ev hj
 rw [e] at h1;rw [e'] at h2
 have hl:n.toNat<s.size:=by omega
 refine ⟨.int .u8 (s[n.toNat]'hl).toNat, ?_, ?_⟩
 ·have:s[n.toNat]? = some (s[n.toNat]'hl):=getElem?_pos s n.toNat hl
  simp only [QaA,execOp,ho,h1.str,h2.int,Instr.index,asIntOf,Sem.run_bind,Sem.run_pure,Result.andThen_ok,QV ht,h0,if_true,this]
 ·have:s.toList.getD n.toNat 0=s[n.toNat]'hl:=by
   rw [ByteArray.toList_eq,List.getD_eq_getElem?_getD]
   have:s.data.toList[n.toNat]? = some (s[n.toNat]'hl):=by
    rw [Array.getElem?_toList];exact getElem?_pos s.data n.toNat hl
   rw [this];rfl
  rw [this];exact QhG
theorem QoR (h:TR D A rs w tm a) {t el len sz:Nat} {n:Option Nat} {x j:Operand} {x' j':X} (ho:o.op = .index t x j) (hx:xOk x x'=true) (hj:xOk j j'=true) (ht:P.underlying t=some (.array len el))
 (hs:Qen P el sz=true) (hp:QcF P el n=true) {cs:List AV} {k:IntKind} {m:Int} (e:x'.ev tm = .agg cs) (e':j'.ev tm = .i k m) (h0:0≤m) (hn:m<len) {r:AV} (he:Qd1 cs (m.toNat * sz) n=some r) :
 ∃ v,QaA P a o w v∧VR D A rs w r v:=by
 have h1:=h.ev hx
 have h2:=h.ev hj
 rw [e] at h1;rw [e'] at h2
 obtain ⟨c,h3,h4⟩:=h1.agg
 obtain ⟨v,h5,h6⟩:=Qjw (P:=P) hp h4 he
 exact ⟨v,by simp only [QaA,execOp,ho,h3,h2.int,Instr.index,asIntOf,Sem.run_bind,Sem.run_pure,Result.andThen_ok,QV ht,h0,hn,and_self,if_true,Qa9 hs,h5],h6⟩
theorem QlR (h:TR D A rs w tm a) {t f off:Nat} {x:Operand} {x':X} (ho:o.op = .fieldAddr t x f) (hx:xOk x x'=true)
 {fs:Array Field} {fd:Field} {n:Nat} (ht:P.underlying t=some (.struct fs)) (hf:fs[f]? = some fd) (hoff:fd.offset=off) (hp:Qen P fd.type n=true) (hn:n≠0)
 {r:Nat} {q:QaO} {pv i c:Nat} (e:x'.ev tm = .ptr r q pv i c):∃ v,QaA P a o w v∧VR D A rs w (.ptr r q pv i (c+off)) v:=by
 have h1:=h.ev hx
 rw [e] at h1
 obtain ⟨h0,ad,h2,h3⟩:=h1.ptr
 subst hoff
 refine ⟨.pointer (some (ad.add fd.offset)), ?_, ?_⟩
 ·simp only [QaA,execOp,ho,h2,Instr.fieldAt,Instr.sureAddr,Sem.run_bind,QV ht,Result.andThen_ok,hf,Sem.run_pure,fieldPlace,Qa9 hp,if_neg hn]
 ·simp only [VR,V1,PR]
  refine ⟨h0,_,rfl,fun R hR=>⟨(h3 R hR).1,fun s ro ys ha el hel => ?_⟩⟩
  obtain ⟨b,oo,h4,h5⟩:=(h3 R hR).2 s ro ys ha el hel
  exact ⟨b,oo,h4,by rw [h5,QcR,Nat.add_assoc]⟩
theorem QhP (h:TR D A rs w tm a) {t f off:Nat} {x:Operand} {x':X} (ho:o.op = .fieldAddr t x f) (hx:xOk x x'=true)
 {fs:Array Field} {fd:Field} {n:Nat} (ht:P.underlying t=some (.struct fs)) (hf:fs[f]? = some fd) (hoff:fd.offset=off) (hp:Qen P fd.type n=true) (hn:n≠0)
 {cs:List AV} {c:Nat} (e:x'.ev tm = .bx cs c):∃ v,QaA P a o w v∧VR D A rs w (.bx cs (c+off)) v:=by
 have h1:=h.ev hx
 rw [e] at h1
 simp only [VR] at h1
 obtain ⟨b,cur,ty,h2,h3⟩:=h1
 subst hoff
 refine ⟨.pointer (some ⟨b,c+fd.offset,none⟩), ?_, ?_⟩
 ·simp only [QaA,execOp,ho,h2,Instr.fieldAt,Instr.sureAddr,Sem.run_bind,QV ht,Result.andThen_ok,hf,Sem.run_pure,fieldPlace,Qa9 hp,if_neg hn,QcR]
 ·simp only [VR]
  exact ⟨b,cur,ty,rfl,h3⟩
theorem QlP (h:TR D A rs w tm a) {t el sz:Nat} {x j:Operand} {x' j':X} (ho:o.op = .indexAddr t x j) (hx:xOk x x'=true) (hj:xOk j j'=true) (ht:P.underlying t=some (.slice el))
 (hs:Qen P el sz=true) {r:Nat} {q:QaO} {pv off len:Nat} {k:IntKind} {n:Int} (e:x'.ev tm = .slc r q pv sz off len) (e':j'.ev tm = .i k n) (h0:0≤n) (hn:n<len) :
 ∃ v,QaA P a o w v∧VR D A rs w (.ptr r q pv (off+n.toNat) 0) v:=by
 have h1:=h.ev hx
 have h2:=h.ev hj
 rw [e] at h1;rw [e'] at h2
 obtain ⟨hD,ad,cap,h3,h4,h5,h6⟩:=h1.slc
 cases ad with
 | none=>have:=h5 rfl;omega
 | some ad =>
  refine ⟨.pointer (some (ad.add (n.toNat * sz))), ?_, ?_⟩
  ·simp only [QaA,execOp,ho,h3,h2.int,Instr.indexAt,asIntOf,Sem.run_bind,Sem.run_pure,Result.andThen_ok,QV ht,h0,hn,and_self,if_true,Qa9 hs]
  ·simp only [VR,V1,PR]
   refine ⟨hD,_,rfl,fun R hR=>⟨(h6 R hR).1,fun s ro ys ha el' hel => ?_⟩⟩
   obtain ⟨rfl,h7,h8⟩:=(h6 R hR).2 s ro ys ha
   rcases h8 with ⟨h8,_⟩|⟨b,oo,h8,h9,h10,h11⟩
   ·omega
   ·injection h9 with h9
    refine ⟨b,oo,h8, ?_⟩
    rw [h9,QcR]
    simp only [Addr.mk.injEq,true_and,and_true]
    rw [Nat.add_mul];omega
theorem QsB (h:TR D A rs w tm a) {t:Nat} {x:Operand} {x':X} {c:Call} (ho:o.op = .call c) (hc:c.callee = .builtin .len) (ha:c.args = #[x]) (hat:c.argTypes = #[t]) (hx:xOk x x'=true)
 {r:AV} (he:(match x'.ev tm with | .s x=>some (AV.i .i64 x.size) | .slc _ _ _ _ _ len=>some (.i .i64 len) | .nl _=>some (.i .i64 0)|_=>none)=some r)
 (ht:P.underlying t=some .string∧(∃ s,x'.ev tm = .s s)∨(∃ e,P.underlying t=some (.slice e))∧∀ s,x'.ev tm ≠ .s s):∃ v,QaA P a o w v∧VR D A rs w r v:=by
 have h1:=h.ev hx
 have run:∀ (u v:Value),a.eval x=u→(Builtin.len_ #[t] o.type #[u]).run P w = .ok v w→QaA P a o w v:=fun u v e1 e2=>by
  simp only [QaA,execOp,ho,resolve,hc,ha,hat,invoke,builtin,Sem.run_bind,Sem.run_pure,Result.andThen_ok,List.map_toArray,List.map_cons,List.map_nil,e1,e2]
 generalize e:x'.ev tm=y at h1 he ht
 cases y <;> simp only [Option.some.injEq,reduceCtorEq] at he
 ·subst he
  rcases ht with ⟨ht,_⟩|⟨_,ht⟩
  ·exact ⟨.int .i64 _,run _ _ h1.str (by simp only [Builtin.len_];simp [QV ht,goInt]),QhG⟩
  ·exact absurd rfl (ht _)
 ·subst he
  rcases ht with ⟨_,_,ht⟩|⟨⟨e',ht⟩,_⟩
  ·cases ht
  ·exact ⟨.int .i64 _,run _ _ h1.nl (by simp only [Builtin.len_];simp [QV ht,goInt]),QhG⟩
 ·subst he
  rcases ht with ⟨_,_,ht⟩|⟨⟨e',ht⟩,_⟩
  ·cases ht
  ·obtain ⟨hD,ad,cap,h3,h4⟩:=h1.slc
   exact ⟨.int .i64 _,run _ _ h3 (by simp only [Builtin.len_];simp [QV ht,goInt]),QhG⟩
theorem QoS (h:TR D A rs w tm a) {s t:Nat} {x:Operand} {x':X} (ho:o.op = .convert s t x) (hx:xOk x x'=true) {k k':IntKind} {d:TypeDesc} (hs:P.underlying s=some d) (ht:P.underlying t=some (.int k))
 {n:Int} (e:x'.ev tm = .i k' n):∃ v,QaA P a o w v∧VR D A rs w (.i k (k.wrap n)) v:=by
 have h1:=h.ev hx
 rw [e] at h1
 refine ⟨.int k (k.wrap n), ?_,QhG⟩
 simp only [QaA,execOp,ho,h1.int,convert,Sem.run_bind,QV hs,QV ht,Result.andThen_ok,Conv.intToInt,Sem.run_pure]
theorem QoO (h:TR D A rs w tm a) {f:Nat} {xs:Array Operand} {xs':List X} (ho:o.op = .makeFunc (.func f) #[] xs) (hx:Qlr xs.toList xs'=true)
 (hp:∀ x∈xs'.map (·.ev tm),(∀ cs,x ≠ .agg cs)∧(∀ g cs,x ≠ .fn g cs)∧(∀ vs,x ≠ .tup vs)∧∀ cs c,x ≠ .bx cs c):∃ v,QaA P a o w v∧VR D A rs w (.fn f (xs'.map (·.ev tm))) v:=by
 have h1:=h.evs hx
 refine ⟨.func (.func f) #[] (xs.map a.eval),by simp [QaA,execOp,ho,Instr.makeFunc], ?_⟩
 simp only [VR,V1]
 refine ⟨_,rfl,by simpa using h1.1,fun i x hx' => ?_⟩
 obtain ⟨v,h2,h3⟩:=h1.2 i x hx'
 refine ⟨v,by simpa using h2, ?_⟩
 have h4:=hp x (List.mem_of_getElem? hx')
 cases x <;> first
  | exact absurd rfl (h4.1 _)
  | exact absurd rfl (h4.2.1 _ _)
  | exact absurd rfl (h4.2.2.1 _)
  | exact absurd rfl (h4.2.2.2 _ _)
  | simpa only [VR,V1] using h3
theorem QeV (h:TR D A rs w tm a) {x:Option Operand} {x':Option X} (hx:Qfo x x'=true) {hi d n:Nat} (he:bnd tm hi x' d=some n) (code:BoundsCode) :
 (x=none∧n=d)∨∃ y,x=some y∧n≤hi∧(Instr.sliceBound (a.eval y) hi code).run P w = .ok n w:=by
 unfold Qfo at hx
 split at hx
 ·simp only [bnd,Option.some.injEq] at he;exact .inl ⟨rfl,he.symm⟩
 ·rename_i y y'
  have h1:=h.ev hx
  simp only [bnd] at he
  split at he
  ·rename_i e;rw [e] at h1
   split at he
   ·rename_i m hm
    injection he with he;subst he
    refine .inr ⟨y,rfl,by omega, ?_⟩
    simp only [Instr.sliceBound,asIntOf,h1.int,Sem.run_bind,Sem.run_pure,Result.andThen_ok]
    rw [if_pos ⟨hm.1,hm.2⟩];rfl
   ·cases he
  ·cases he
 ·cases hx
theorem Qdg (h:TR D A rs w tm a) {lo hi:Option Operand} {lo' hi':Option X} (hlo:Qfo lo lo'=true) (hhi:Qfo hi hi'=true) {isS:Bool} {len cap top l u:Nat} (ht:top≤cap) (hl:len≤top)
 (hu:bnd tm top hi' len=some u) (hl':bnd tm u lo' 0=some l) (hcap:∀ y code v,(Instr.sliceBound v top code).run P w = .ok y w→(Instr.sliceBound v cap code).run P w = .ok y w) :
 (Instr.sliceBounds isS len cap (lo.map a.eval) (hi.map a.eval) none).run P w = .ok (l,u,cap) w∧l≤u∧u≤top:=by
 rcases QeV (P:=P) h hhi hu (if isS then .sliceAcap else .sliceAlen) with ⟨rfl,rfl⟩|⟨y,rfl,h1,h2⟩
 ·rcases QeV (P:=P) h hlo hl' .sliceB with ⟨rfl,rfl⟩|⟨z,rfl,h3,h4⟩
  ·exact ⟨by simp [Instr.sliceBounds],Nat.zero_le _,hl⟩
  ·exact ⟨by simp only [Instr.sliceBounds,Option.map_none,Option.map_some,Sem.run_bind,Sem.run_pure,Result.andThen_ok,Option.isSome_none,Bool.false_eq_true,if_false,h4],h3,hl⟩
 ·rcases QeV (P:=P) h hlo hl' .sliceB with ⟨rfl,rfl⟩|⟨z,rfl,h3,h4⟩
  ·exact ⟨by simp only [Instr.sliceBounds,Option.map_none,Option.map_some,Sem.run_bind,Sem.run_pure,Result.andThen_ok,hcap _ _ _ h2],Nat.zero_le _,h1⟩
  ·exact ⟨by simp only [Instr.sliceBounds,Option.map_none,Option.map_some,Sem.run_bind,Sem.run_pure,Result.andThen_ok,hcap _ _ _ h2,Option.isSome_none,Bool.false_eq_true,if_false,h4],h3,h1⟩
theorem Qfz {top cap:Nat} (h:top≤cap):∀ y code v,(Instr.sliceBound v top code).run P w = .ok y w→(Instr.sliceBound v cap code).run P w = .ok y w:=by
 intro y code v hr
 unfold Instr.sliceBound at *
 cases v <;> simp only [asIntOf,Sem.run_bind,Sem.run_pure,Result.andThen_ok,run_stuck,Result.andThen] at hr ⊢ <;> try (cases hr;done)
 ·rename_i k n
  split at hr
  ·rename_i hc;rw [if_pos ⟨hc.1,Int.le_trans hc.2 (Int.ofNat_le.2 h)⟩];exact hr
  ·simp only [boundsPanic,Sem.run_bind,runtimePanic] at hr
   exfalso
   revert hr
   split <;> simp [Result.andThen]
   split <;> simp [Result.andThen]
 ·rename_i ad;cases ad <;> simp at hr
theorem Qst (h:TR D A rs w tm a) {t:Nat} {x:Operand} {x':X} {lo hi:Option Operand} {lo' hi':Option X} (ho:o.op = .slice t x lo hi none) (hx:xOk x x'=true) (hlo:Qfo lo lo'=true) (hhi:Qfo hi hi'=true)
 (ht:P.underlying t=some .string) {s:ByteArray} {l u:Nat} (e:x'.ev tm = .s s) (hu:bnd tm s.size hi' s.size=some u) (hl:bnd tm u lo' 0=some l) :
 ∃ v,QaA P a o w v∧VR D A rs w (.s (s.extract l u)) v:=by
 have h1:=h.ev hx
 rw [e] at h1
 have h2:=Qdg (P:=P) (isS:=false) h hlo hhi (Nat.le_refl _) (Nat.le_refl _) hu hl (fun _ _ _ h=>h)
 refine ⟨.string (s.extract l u), ?_,Qyd⟩
 simp only [QaA,execOp,ho,h1.str,Instr.sliceAt,Instr.slice,Sem.run_bind,QV ht,Result.andThen_ok,Option.map_none,Option.isSome_none,Bool.false_eq_true,if_false,h2.1,Sem.run_pure]
theorem Qsu (h:TR D A rs w tm a) {t el sz:Nat} {x:Operand} {x':X} {lo hi:Option Operand} {lo' hi':Option X} (ho:o.op = .slice t x lo hi none) (hx:xOk x x'=true) (hlo:Qfo lo lo'=true) (hhi:Qfo hi hi'=true)
 (ht:P.underlying t=some (.slice el)) (hs:Qen P el sz=true) {r:Nat} {q:QaO} {pv off len l u:Nat} (e:x'.ev tm = .slc r q pv sz off len) (hu:bnd tm len hi' len=some u) (hl:bnd tm u lo' 0=some l) :
 ∃ v,QaA P a o w v∧VR D A rs w (.slc r q pv sz (off+l) (u-l)) v:=by
 have h1:=h.ev hx
 rw [e] at h1
 obtain ⟨hD,ad,cap,h3,h4,h5,h6⟩:=h1.slc
 obtain ⟨h2,hlu,hul⟩:=Qdg (P:=P) (isS:=true) h hlo hhi h4 (Nat.le_refl _) hu hl (Qfz h4)
 refine ⟨.slice (if cap=l then ad else ad.map (·.add (l * sz))) (u-l) (cap-l), ?_, ?_⟩
 ·simp only [QaA,execOp,ho,h3,Instr.sliceAt,Instr.slice,Sem.run_bind,QV ht,Result.andThen_ok,Option.map_none,h2,Sem.run_pure,Qa9 hs]
 ·simp only [VR,V1,PR]
  refine ⟨hD,_,_,rfl,by omega,fun hn => ?_,fun R hR=>⟨(h6 R hR).1,fun s ro ys ha => ?_⟩⟩
  ·by_cases c:cap=l
   ·omega
   ·rw [if_neg c] at hn
    cases ad with
    | none=>have:=h5 rfl;omega
    | some ad=>simp at hn
  ·obtain ⟨rfl,h7,h8⟩:=(h6 R hR).2 s ro ys ha
   refine ⟨rfl,by omega, ?_⟩
   by_cases c:cap=l
   ·left
    rcases h8 with ⟨h8,h9⟩|⟨b,oo,h8,h9,h10,h11⟩ <;> omega
   ·rcases h8 with ⟨h8,h9⟩|⟨b,oo,h8,h9,h10,h11⟩
    ·omega
    ·right
     subst h9
     refine ⟨b,oo,h8, ?_, ?_,by omega⟩
     ·rw [if_neg c]
      simp only [Option.map_some,QcR,Nat.add_mul,Nat.add_assoc]
     ·have:off+l+(cap-l)=off+cap:=by omega
      rw [this];exact h10
theorem Qsx (h:TR D A rs w tm a) {t el sz:Nat} {x:Operand} {x':X} {lo hi:Option Operand} {lo' hi':Option X} (ho:o.op = .slice t x lo hi none) (hx:xOk x x'=true) (hlo:Qfo lo lo'=true) (hhi:Qfo hi hi'=true)
 (ht:P.underlying t=some (.slice el)) (hs:Qen P el sz=true) {r:Nat} {q:QaO} {pv off len l u:Nat} (e:x'.ev tm = .slc r q pv sz off len) {R:Qaj} {s0:Nat} {ro0:Bool} {ys0:Els} (hlk:QcV rs r q pv=some (R,s0,ro0,ys0))
 (hu:bnd tm (max len (ys0.length-off)) hi' len=some u) (hl:bnd tm u lo' 0=some l) :
 ∃ v,QaA P a o w v∧VR D A rs w (.slc r q pv sz (off+l) (u-l)) v:=by
 have h1:=h.ev hx
 rw [e] at h1
 obtain ⟨hD,ad,cap,h3,h4,h5,h6⟩:=h1.slc
 obtain ⟨hR0,hA0⟩:rs r=some R∧R.arr q pv=some (s0,ro0,ys0):=by
  simp only [QcV,Option.bind_eq_some_iff,Option.map_eq_some_iff] at hlk
  obtain ⟨R',g1,x,g2,g3⟩:=hlk
  injection g3 with g3 g4;subst g3;subst g4
  exact ⟨g1,g2⟩
 obtain ⟨rfl,h70,h80⟩:=(h6 R hR0).2 s0 ro0 ys0 hA0
 have htop:max len (ys0.length-off)≤cap:=by
  rcases h80 with ⟨h8,h9⟩|⟨b,oo,h8,h9,h10,h11⟩ <;> omega
 obtain ⟨h2,hlu,hul⟩:=Qdg (P:=P) (isS:=true) h hlo hhi htop (Nat.le_max_left _ _) hu hl (Qfz htop)
 refine ⟨.slice (if cap=l then ad else ad.map (·.add (l * s0))) (u-l) (cap-l), ?_, ?_⟩
 ·simp only [QaA,execOp,ho,h3,Instr.sliceAt,Instr.slice,Sem.run_bind,QV ht,Result.andThen_ok,Option.map_none,h2,Sem.run_pure,Qa9 hs]
 ·simp only [VR,V1,PR]
  refine ⟨hD,_,_,rfl,by omega,fun hn => ?_,fun R' hR'=>⟨(h6 R' hR').1,fun s ro ys ha => ?_⟩⟩
  ·by_cases c:cap=l
   ·omega
   ·rw [if_neg c] at hn
    cases ad with
    | none=>have:=h5 rfl;omega
    | some ad=>simp at hn
  ·rw [hR0] at hR';injection hR' with hR';subst hR'
   rw [hA0] at ha;injection ha with ha;injection ha with e1 ha;injection ha with e2 e3
   subst e1;subst e2;subst e3
   refine ⟨rfl,by omega, ?_⟩
   by_cases c:cap=l
   ·left
    rcases h80 with ⟨h8,h9⟩|⟨b,oo,h8,h9,h10,h11⟩ <;> omega
   ·rcases h80 with ⟨h8,h9⟩|⟨b,oo,h8,h9,h10,h11⟩
    ·omega
    ·right
     subst h9
     refine ⟨b,oo,h8, ?_, ?_,by omega⟩
     ·rw [if_neg c]
      simp only [Option.map_some,QcR,Nat.add_mul,Nat.add_assoc]
     ·have:off+l+(cap-l)=off+cap:=by omega
      rw [this];exact h10
theorem Qsw (h:TR D A rs w tm a) {t el sz:Nat} {x:Operand} {x':X} {lo:Option Operand} {hi mx:Operand} {lo' hi' mx':Option X} (ho:o.op = .slice t x lo (some hi) (some mx)) (hx:xOk x x'=true) (hlo:Qfo lo lo'=true) (hhi:Qfo (some hi) hi'=true) (hmx:Qfo (some mx) mx'=true)
 (ht:P.underlying t=some (.slice el)) (hs:Qen P el sz=true) {r:Nat} {q:QaO} {pv off len m l u:Nat} (e:x'.ev tm = .slc r q pv sz off len) (hm:bnd tm len mx' len=some m) (hu:bnd tm m hi' m=some u) (hl:bnd tm u lo' 0=some l) :
 ∃ v,QaA P a o w v∧VR D A rs w .undef v:=by
 have h1:=h.ev hx
 rw [e] at h1
 obtain ⟨hD,ad,cap,h3,h4,h5,h6⟩:=h1.slc
 have g1:(Instr.sliceBound (a.eval mx) cap .slice3Acap).run P w = .ok m w:=by
  rcases QeV (P:=P) h hmx hm .slice3Acap with ⟨e,_⟩|⟨y,e,h7,h8⟩
  ·cases e
  ·injection e with e;subst e;exact Qfz h4 _ _ _ h8
 have g2:(Instr.sliceBound (a.eval hi) m .slice3B).run P w = .ok u w:=by
  rcases QeV (P:=P) h hhi hu .slice3B with ⟨e,_⟩|⟨y,e,h7,h8⟩
  ·cases e
  ·injection e with e;subst e;exact h8
 have g3:(Instr.sliceBounds true len cap (lo.map a.eval) (some (a.eval hi)) (some (a.eval mx))).run P w = .ok (l,u,m) w:=by
  rcases QeV (P:=P) h hlo hl .slice3C with ⟨rfl,rfl⟩|⟨z,rfl,h7,h8⟩
  ·simp only [Instr.sliceBounds,Option.map_none,Sem.run_bind,Sem.run_pure,Result.andThen_ok,g1,g2,if_true]
  ·simp only [Instr.sliceBounds,Option.map_some,Sem.run_bind,Sem.run_pure,Result.andThen_ok,g1,g2,Option.isSome_some,if_true,h8]
 refine ⟨.slice (if m=l then ad else ad.map (·.add (l * sz))) (u-l) (m-l), ?_,by simp only [VR,V1,PR]⟩
 simp only [QaA,execOp,ho,h3,Instr.sliceAt,Instr.slice,Sem.run_bind,QV ht,Result.andThen_ok,Option.map_some,g3,Sem.run_pure,Qa9 hs]
theorem Qsv (h:TR D A rs w tm a) {t el sz sz':Nat} {x:Operand} {x':X} {lo hi:Option Operand} {lo' hi':Option X} (ho:o.op = .slice t x lo hi none) (hx:xOk x x'=true) (hlo:Qfo lo lo'=true) (hhi:Qfo hi hi'=true)
 (ht:P.underlying t=some (.slice el)) (hs:Qen P el sz=true) {l u:Nat} (e:x'.ev tm = .nl sz') (hu:bnd tm 0 hi' 0=some u) (hl:bnd tm u lo' 0=some l) :
 ∃ v,QaA P a o w v∧VR D A rs w (.nl sz') v:=by
 have h1:=h.ev hx
 rw [e] at h1
 obtain ⟨h2,hlu,hul⟩:=Qdg (P:=P) (isS:=true) h hlo hhi (Nat.le_refl _) (Nat.le_refl _) hu hl (fun _ _ _ h=>h)
 obtain rfl:u=0:=by omega
 obtain rfl:l=0:=by omega
 refine ⟨.slice none 0 0, ?_,by simp only [VR,V1,PR]⟩
 simp only [QaA,execOp,ho,h1.nl,Instr.sliceAt,Instr.slice,Sem.run_bind,QV ht,Result.andThen_ok,Option.map_none,h2,Sem.run_pure,Qa9 hs,if_true]
end
end Go.Proofs.YtallpjhkmcgpoaaGreat.V
end
section
namespace Go.Proofs.YtallpjhkmcgpoaaGreat.V
open Go
theorem Qaj.arr_of {R:Qaj} {q:QaO} {pv:Nat} {x} (h:R.arr q pv=some x):QaB R.sz (!R.own) R.xs q=some x:=by
 cases q with
 | nil=>exact h
 | cons p q=>simp only [Qaj.arr] at h;split at h <;> first|exact h|cases h
theorem Qaj.arr_pv {R:Qaj} {q:QaO} : R.arr q R.pv=QaB R.sz (!R.own) R.xs q:=by
 cases q with
 | nil=>rfl
 | cons p q=>simp [Qaj.arr]
theorem Qb0 {rs:Rs} {r:Nat} {q:QaO} {pv:Nat} {R:Qaj} {s:Nat} {ro:Bool} {xs:Els} (h:QcV rs r q pv=some (R,s,ro,xs)) :
 rs r=some R∧R.arr q pv=some (s,ro,xs):=by
 simp only [QcV,Option.bind_eq_some_iff,Option.map_eq_some_iff] at h
 obtain ⟨R',h1,x,h2,h3⟩:=h
 injection h3 with h3 h4
 subst h3;subst h4
 exact ⟨h1,h2⟩
theorem Qp2 {R:Qaj} {q:QaO} {s:Nat} {ro:Bool} {xs:Els} (h:QaB R.sz (!R.own) R.xs q=some (s,ro,xs)) {i c:Nat} {p bo:Bool} {sz:Nat} {ys:Els}
 (hc:QW xs i c=some (.deep p bo sz ys)):QaB R.sz (!R.own) R.xs (q++[(i,c)])=some (sz,ro || bo,ys):=by
 rw [Qb3,h]
 simp only [Option.bind_some,QaB,hc]
theorem Qhv {w:World} {b off:Nat} {cur:Array Value} {ro:Bool} (h:Blk w b ro cur):w.cell? ⟨b,off,none⟩=cur[off]? := by
 obtain ⟨e,fr,h1,_⟩:=h
 simp [World.cell?, h1]
section
variable {P:Program} {D:Nat→Prop} {A:Nat→Gh} {rs:Rs} {w:World} {tm:Tm} {a:Act} {o:Oper} {cx:Cx}
theorem HR.arr (h:HR cx w A rs) {r:Nat} {R:Qaj} (hr:rs r=some R) {q:QaO} {s:Nat} {ro:Bool} {xs:Els} (ha:QaB R.sz (!R.own) R.xs q=some (s,ro,xs)) :
 Qbg w ro s ((A r).from' q) xs:=(h.tree r R hr).path ha
theorem Qm1 {r:Nat} (hD:D r) {R:Qaj} (hr:rs r=some R) {q:QaO} {s:Nat} {ro:Bool} {xs:Els} (ha:QaB R.sz (!R.own) R.xs q=some (s,ro,xs)) {i c:Nat} {cell:AV} {v:Value}
 (hc:QW xs i c=some cell) (hv:QaR w (((A r).from' q).at' i c) cell v):PR D A rs w (QdE r q R.pv i c cell) v:=by
 cases cell with
 | undef=>simp only [QdE,PR]
 | b x=>simpa only [QdE,PR,QaR] using hv
 | i k n=>simpa only [QdE,PR,QaR] using hv
 | s x=>simpa only [QdE,PR,QaR] using hv
 | deep p bo sz ys =>
  simp only [QaR] at hv
  have hk:((A r).from' q).at' i c []=A r (q++[(i,c)]):=rfl
  rw [hk] at hv
  have harr:∀ R',rs r=some R'→∀ s' ro' ys',R'.arr (q++[(i,c)]) R.pv=some (s',ro',ys')→s'=sz∧ys'=ys∧ro'=(ro || bo):=fun R' h1 s' ro' ys' h2=>by
   rw [hr] at h1;injection h1 with h1;subst h1
   rw [Qaj.arr_pv,Qp2 ha hc] at h2
   injection h2 with h2;injection h2 with h2 h3;injection h3 with h3 h4
   exact ⟨h2.symm,h4.symm,h3.symm⟩
  have hpv:∀ R',rs r=some R'→(q++[(i,c)]≠[]→R.pv≤R'.pv):=fun R' h1 _=>by
   rw [hr] at h1;injection h1 with h1;subst h1;exact Nat.le_refl _
  cases p with
  | false =>
   simp only [QdE,PR]
   cases e:A r (q++[(i,c)]) with
   | none =>
    rw [e] at hv
    obtain ⟨h1,x,h2⟩:=hv
    refine ⟨hD,x,0,by rw [h1];exact h2,by omega,fun _=>rfl,fun R' hR'=>⟨hpv R' hR',fun s' ro' ys' h3 => ?_⟩⟩
    obtain ⟨rfl,rfl,rfl⟩:=harr R' hR' s' ro' ys' h3
    exact ⟨rfl,by omega, .inl ⟨rfl,by omega⟩⟩
   | some x =>
    obtain ⟨b,oo⟩:=x
    rw [e] at hv
    obtain ⟨cap,h1,h2,h3⟩:=hv
    refine ⟨hD,_,cap,h1,h2,fun h=>(by cases h),fun R' hR'=>⟨hpv R' hR',fun s' ro' ys' h4 => ?_⟩⟩
    obtain ⟨rfl,rfl,rfl⟩:=harr R' hR' s' ro' ys' h4
    exact ⟨rfl,by omega, .inr ⟨b,oo,rfl,by simp,by rw [Nat.zero_add];exact h3.ro,by omega⟩⟩
  | true =>
   simp only [QdE,PR]
   cases e:A r (q++[(i,c)]) with
   | none=>rw [e] at hv;exact hv.elim
   | some x =>
    obtain ⟨b,oo⟩:=x
    rw [e] at hv
    obtain ⟨h1,h2⟩:=hv
    refine ⟨hD,_,h1,fun R' hR'=>⟨hpv R' hR',fun s' ro' ys' h4 el hel=>⟨b,oo,rfl,by simp⟩⟩⟩
 | mb=>simp only [QaR] at hv
 | nl sz=>simp only [QaR] at hv
 | fn f cs=>simp only [QaR] at hv
 | agg cs=>simp only [QaR] at hv
 | tup vs=>simp only [QaR] at hv
 | slc=>simp only [QaR] at hv
 | ptr=>simp only [QaR] at hv
 | vp=>simp only [QaR] at hv
 | bx=>simp only [QaR] at hv
 | cv=>simp only [QaR] at hv
theorem Qh7 {r:Nat} (hD:D r) {R:Qaj} (hr:rs r=some R) {q:QaO} {s:Nat} {ro:Bool} {xs:Els} (ha:QaB R.sz (!R.own) R.xs q=some (s,ro,xs)) {i:Nat} :
 ∀ {cs:List AV} {vs:List Value} {c:Nat}, (∀ (j:Nat) cell,cs[j]? = some cell→QW xs i (c+j)=some cell) →
 (cs.length=vs.length∧∀ (j:Nat) cell,cs[j]? = some cell→∃ v,vs[j]? = some v∧QaR w (((A r).from' q).at' i (c+j)) cell v)→Pw (PR D A rs w) (Qfl r q R.pv i c cs) vs
 | [],vs,c,_,h=>by
  obtain rfl:vs=[]:=List.eq_nil_of_length_eq_zero (by simpa using h.1.symm)
  exact Pw.nil
 | x::cs,vs,c,hc,h=>by
  cases vs with
  | nil=>have:=h.1;simp at this
  | cons v vs =>
   simp only [Qfl]
   refine Pw.cons ?_ ?_
   ·obtain ⟨v',h1,h2⟩:=h.2 0 x rfl
    simp only [List.getElem?_cons_zero,Option.some.injEq] at h1;subst h1
    exact Qm1 hD hr ha (by simpa using hc 0 x rfl) (by simpa using h2)
   ·refine Qh7 hD hr ha (c:=c+1) (fun j cell hj => ?_) ⟨by simpa using h.1,fun j cell hj => ?_⟩
    ·have:=hc (j+1) cell (by simpa using hj);rwa [Nat.add_assoc,Nat.add_comm 1 j]
    ·obtain ⟨v',h1,h2⟩:=h.2 (j+1) cell (by simpa using hj)
     exact ⟨v',by simpa using h1,by rwa [Nat.add_assoc,Nat.add_comm 1 j]⟩
theorem QqE (hh:HR cx w A rs) {r:Nat} {q:QaO} {pv i c:Nat} {v:Value} (h:PR D A rs w (.ptr r q pv i c) v) {R:Qaj} {s:Nat} {ro:Bool} {xs:Els} (hl:QcV rs r q pv=some (R,s,ro,xs))
 {el:List AV} (he:xs[i]? = some el):D r∧rs r=some R∧QaB R.sz (!R.own) R.xs q=some (s,ro,xs)∧el.length=s∧∃ b oo cur,A r q=some (b,oo)∧v = .pointer (some ⟨b,oo+i * s+c,none⟩)∧Blk w b ro cur ∧
  ∀ i c cell,QW xs i c=some cell→∃ v,cur[oo+i * s+c]? = some v∧v.oneCell'=true∧QaR w (((A r).from' q).at' i c) cell v:=by
 obtain ⟨h1,h2⟩:=Qb0 hl
 obtain ⟨hD,ad,rfl,h3⟩:=h
 obtain ⟨b,oo,h4,h5⟩:=(h3 R h1).2 s ro xs h2 el he
 have ha:=Qaj.arr_of h2
 have ht:=(hh.arr h1 ha).top
 have hk:(A r).from' q []=some (b,oo):=by simpa [Gh.from'] using h4
 have h6:=ht.2
 rw [hk] at h6
 obtain ⟨cur,h7,h8⟩:=h6
 exact ⟨hD,h1,ha,ht.1 i el he,b,oo,cur,h4,by rw [h5],h7,h8⟩
theorem Qfg {t:Nat} (hp:QfW P t=some false) {b off:Nat} {v:Value} (h:w.cell? ⟨b,off,none⟩=some v):(loadVar t ⟨b,off,none⟩).run P w = .ok v w:=by
 simp only [loadVar,Sem.run_bind,QcS hp,Result.andThen_ok,Bool.false_eq_true,if_false,run_load,h]
theorem Qff {t n:Nat} (hp:QfW P t=some true) (hs:Qen P t n=true) {b off:Nat} {vs:List Value} (hn:vs.length=n) (h:∀ (j:Nat) v,vs[j]? = some v→w.cell? ⟨b,off+j,none⟩=some v) :
 (loadVar t ⟨b,off,none⟩).run P w = .ok (.agg vs.toArray) w:=by
 have h1:=run_loadCells_list (P:=P) (w:=w) ⟨b,off,none⟩ vs (fun j v hj=>by rw [QcR];exact h j v hj)
 rw [hn] at h1
 simp only [loadVar,Sem.run_bind,QcS hp,Qa9 hs,Result.andThen_ok,if_true,h1,Sem.run_pure]
theorem Qh5 (h:TR D A rs w tm a) (hh:HR cx w A rs) {t:Nat} {n:Option Nat} {x:Operand} {x':X} (hx:xOk x x'=true) (hp:QcF P t n=true)
 {r:Nat} {q:QaO} {pv i c:Nat} (e:x'.ev tm = .ptr r q pv i c) {R:Qaj} {s:Nat} {ro:Bool} {xs:Els} (hl:QcV rs r q pv=some (R,s,ro,xs)) {el:List AV} (he:xs[i]? = some el)
 {av:AV} (hv:QdK r q R.pv i c el n=some av) :
 ∃ v ad,a.eval x = .pointer (some ad)∧(loadVar t ad).run P w = .ok v w∧VR D A rs w av v:=by
 have h1:=h.ev hx
 rw [e] at h1
 obtain ⟨hD,hr,ha,hel,b,oo,cur,hk,hval,hb,hcells⟩:=QqE hh h1.ptr hl he
 cases n with
 | none =>
  simp only [QcF,beq_iff_eq] at hp
  simp only [QdK,Option.map_eq_some_iff] at hv
  obtain ⟨cell,hcell,rfl⟩:=hv
  obtain ⟨v,h2,h3,h4⟩:=hcells i c cell (QbN he hcell)
  exact ⟨v,_,hval,(Qfg hp (by rw [Qhv hb];exact h2)),(Qm1 hD hr ha (QbN he hcell) h4).vr⟩
 | some n =>
  simp only [QcF,Bool.and_eq_true,beq_iff_eq] at hp
  simp only [QdK] at hv
  split at hv
  ·rename_i hc
   injection hv with hv;subst hv
   have hvs:∀ j,j<n→∃ v,cur[oo+i * s+(c+j)]? = some v:=fun j hj=>by
    obtain ⟨v,h2,_⟩:=hcells i (c+j) (el[c+j]'(by omega)) (QbN he (List.getElem?_eq_getElem (by omega)))
    exact ⟨v,h2⟩
   let vs:=(List.range n).map fun j=>(cur[oo+i * s+(c+j)]?).getD undef
   have hlen:vs.length=n:=by simp [vs]
   have hat:∀ (j:Nat) v,vs[j]? = some v→cur[oo+i * s+(c+j)]? = some v:=fun j v hj=>by
    have hj':j<n:=by have:=(List.getElem?_eq_some_iff.1 hj).1;omega
    obtain ⟨u,hu⟩:=hvs j hj'
    simp only [vs,List.getElem?_map,List.getElem?_range hj',Option.map_some,Option.some.injEq,hu,Option.getD_some] at hj
    rw [hu,hj]
   refine ⟨.agg vs.toArray,_,hval,(Qff hp.1 hp.2 hlen fun j v hj => ?_), ?_⟩
   ·rw [Qhv hb,Nat.add_assoc];exact hat j v hj
   ·simp only [VR,V1]
    refine ⟨_,rfl,Qh7 hD hr ha (fun j cell hj => ?_) ⟨by simp [hlen];omega,fun j cell hj => ?_⟩⟩
    ·rw [List.getElem?_take] at hj
     split at hj
     ·rw [List.getElem?_drop] at hj;exact QbN he hj
     ·cases hj
    ·rw [List.getElem?_take] at hj
     split at hj
     ·rename_i hjn
      rw [List.getElem?_drop] at hj
      obtain ⟨v,h2,h3,h4⟩:=hcells i (c+j) cell (QbN he hj)
      refine ⟨v, ?_,h4⟩
      simp only [vs,List.toList_toArray,List.getElem?_map,List.getElem?_range hjn,Option.map_some,h2,Option.getD_some]
     ·cases hj
  ·cases hv
theorem QmC (h:TR D A rs w tm a) {t:Nat} {n:Option Nat} {x:Operand} {x':X} (hx:xOk x x'=true) (hp:QcF P t n=true) {cs:List AV} {c:Nat} (e:x'.ev tm = .bx cs c) {av:AV} (hav:Qd1 cs c n=some av) :
 ∃ v ad,a.eval x = .pointer (some ad)∧(loadVar t ad).run P w = .ok v w∧VR D A rs w av v:=by
 have h1:=h.ev hx
 rw [e] at h1
 simp only [VR] at h1
 obtain ⟨b,cur,ty,hval,hb,hpw,_⟩:=h1
 have hcell:∀ i,w.cell? ⟨b,i,none⟩=cur[i]? := fun i=>Qhv (ro:=true) ⟨ty,(0,0),hb,fun h=>by cases h⟩
 cases n with
 | none =>
  simp only [QcF,beq_iff_eq] at hp
  simp only [Qd1] at hav
  obtain ⟨v,h1,h2⟩:=hpw.2 c av hav
  refine ⟨v,_,hval,Qfg hp ?_,h2.vr⟩
  rw [hcell, ←Array.getElem?_toList];exact h1
 | some n =>
  simp only [QcF,Bool.and_eq_true,beq_iff_eq] at hp
  simp only [Qd1] at hav
  split at hav
  ·rename_i hc
   injection hav with hav;subst hav
   have hlen:((cur.toList.drop c).take n).length=n:=by have:=hpw.1;simp at this ⊢; omega
   refine ⟨.agg ((cur.toList.drop c).take n).toArray,_,hval,Qff hp.1 hp.2 hlen fun j v hj => ?_, ?_⟩
   ·rw [hcell, ←Array.getElem?_toList]
    rw [List.getElem?_take] at hj
    split at hj
    ·rwa [List.getElem?_drop] at hj
    ·cases hj
   ·simp only [VR,V1]
    exact ⟨_,rfl,(hpw.drop c).take n⟩
  ·cases hav
theorem QiM (h:TR D A rs w tm a) {t:Nat} {n:Option Nat} {x:Operand} {x':X} (ho:o.op = .load t x) (hx:xOk x x'=true) (hp:QcF P t n=true) {cs:List AV} {c:Nat} (e:x'.ev tm = .bx cs c) {av:AV} (hav:Qd1 cs c n=some av) :
 ∃ v,QaA P a o w v∧VR D A rs w av v:=by
 obtain ⟨v,ad,h1,h2,h3⟩:=QmC h hx hp e hav
 exact ⟨v,by simp only [QaA,execOp,ho,h1,Instr.loadAt,Instr.sureAddr,Sem.run_bind,Sem.run_pure,Result.andThen_ok,h2],h3⟩
theorem QoP (h:TR D A rs w tm a) (hh:HR cx w A rs) {t:Nat} {n:Option Nat} {x:Operand} {x':X} (ho:o.op = .load t x) (hx:xOk x x'=true) (hp:QcF P t n=true)
 {r:Nat} {q:QaO} {pv i c:Nat} (e:x'.ev tm = .ptr r q pv i c) {R:Qaj} {s:Nat} {ro:Bool} {xs:Els} (hl:QcV rs r q pv=some (R,s,ro,xs)) {el:List AV} (he:xs[i]? = some el)
 {av:AV} (hv:QdK r q R.pv i c el n=some av):∃ v,QaA P a o w v∧VR D A rs w av v:=by
 obtain ⟨v,ad,h1,h2,h3⟩:=Qh5 h hh hx hp e hl he hv
 exact ⟨v,by simp only [QaA,execOp,ho,h1,Instr.loadAt,Instr.sureAddr,Sem.run_bind,Sem.run_pure,Result.andThen_ok,h2],h3⟩
end
end Go.Proofs.YtallpjhkmcgpoaaGreat.V
end
section
namespace Go.Proofs.YtallpjhkmcgpoaaGreat.V
open Go
structure Det (cx:Cx) (w:World) (A:Nat→Gh) (rs:Rs) (G:Gh) (av:AV) (v:Value) (asx:List Nat):Prop where
 cell:QaR w G av v
 one:v.oneCell'=true
 tree:∀ p bo sz ys,av = .deep p bo sz ys→Qbg w bo sz G ys
 own:∀ p bo sz ys,av = .deep p bo sz ys→∀ ρ b,V.Key sz bo G ys false ρ b→∃ r R,asx=[r]∧rs r=some R∧∃ ρ',R.Key (A r) false ρ' b
 inj:∀ p bo sz ys,av = .deep p bo sz ys→∀ ρ ρ' b,V.Key sz bo G ys false ρ b→V.Key sz bo G ys false ρ' b→ρ=ρ'
 sta:∀ p bo sz ys,av = .deep p bo sz ys→∀ ρ b,V.Key sz bo G ys true ρ b→cx.S b
 len:asx.length≤1
def QoA (B:Gh) (off:Nat) (top:Option (Nat×Nat)):Gh:=fun ρ=>match ρ with
 | []=>top
 | (i,c)::ρ=>B ((off+i,c)::ρ)
def Qoz (off:Nat):QaO→QaO
 | []=>[]
 | (i,c)::ρ=>(off+i,c)::ρ
theorem Qjj {off:Nat} {ρ ρ':QaO} (h:Qoz off ρ=Qoz off ρ'):ρ=ρ':=by
 cases ρ with
 | nil=>cases ρ' with|nil=>rfl|cons x y=>simp [Qoz] at h
 | cons x y=>cases ρ' with
  | nil=>simp [Qoz] at h
  | cons x' y' =>
   obtain ⟨i,c⟩:=x;obtain ⟨i',c'⟩:=x'
   simp only [Qoz,List.cons.injEq,Prod.mk.injEq] at h
   obtain ⟨⟨h1,h2⟩,h3⟩:=h
   have:i=i':=by omega
   subst this;subst h2;subst h3;rfl
section
variable {w:World} {ro:Bool} {sz:Nat} {B:Gh} {ys:Els} {off len:Nat}
theorem Qsj (hl:off+len≤ys.length) {i c:Nat} {q:QaO} {x} (h:QaB sz ro (wnd ys off len) ((i,c)::q)=some x):QaB sz ro ys ((off+i,c)::q)=some x:=by
 obtain ⟨p,bo,sz',zs,h1,h2⟩:=QaZ h
 simp only [QaB,(Qbp hl h1).2,h2]
theorem Qji (h:Qbg w ro sz B ys) (hl:off+len≤ys.length) {top:Option (Nat×Nat)}
 (htop:match top with|none=>len=0|some (b,o)=>∃ o',B []=some (b,o')∧o=o'+off * sz):Qbg w ro sz (QoA B off top) (wnd ys off len):=by
 refine Qbg.mk' ⟨fun i el he => ?_, ?_⟩ fun i c p bo sz' zs hc => ?_
 ·rw [Qgp hl] at he
  split at he
  ·exact h.top.1 _ _ he
  ·cases he
 ·cases top with
  | none =>
   simp only [QoA] at htop ⊢
   exact List.eq_nil_of_length_eq_zero (by rw [QaS hl];exact htop)
  | some x =>
   obtain ⟨b,o⟩:=x
   obtain ⟨o',h1,rfl⟩:=htop
   have h2:=h.top.2
   rw [h1] at h2
   obtain ⟨cur,h3,h4⟩:=h2
   simp only [QoA]
   refine ⟨cur,h3,fun i c cell hc => ?_⟩
   obtain ⟨h5,h6⟩:=Qbp hl hc
   obtain ⟨v,h7,h8,h9⟩:=h4 _ _ _ h6
   exact ⟨v,by rw [←h7,Nat.add_mul];congr 1;omega,h8,h9⟩
 ·obtain ⟨h5,h6⟩:=Qbp hl hc
  exact h.sub h6
theorem Qsi (hl:off+len≤ys.length) {top:Option (Nat×Nat)} (htop:∀ b o,top=some (b,o)→∃ o',B []=some (b,o')) {f:Bool} {ρ:QaO} {b:Nat}
 (h:V.Key sz ro (QoA B off top) (wnd ys off len) f ρ b):V.Key sz ro B ys f (Qoz off ρ) b:=by
 obtain ⟨s,zs,o,h1,h2⟩:=h
 cases ρ with
 | nil =>
  obtain ⟨o',h3⟩:=htop b o h2
  simp only [QaB,Option.some.injEq,Prod.mk.injEq] at h1
  exact ⟨sz,ys,o',by simp only [Qoz,QaB,h1.2.1],h3⟩
 | cons x ρ =>
  obtain ⟨i,c⟩:=x
  exact ⟨s,zs,o,Qsj hl h1,h2⟩
end
section
variable {P:Program} {D:Nat→Prop} {A:Nat→Gh} {rs:Rs} {w:World} {cx:Cx}
theorem Det.plain {av:AV} {v:Value} (hc:QaR w (fun _=>none) av v) (h1:v.oneCell'=true) (hd:∀ p bo sz ys,av ≠ .deep p bo sz ys):Det cx w A rs (fun _=>none) av v [] :=
 ⟨hc,h1,fun p bo sz ys e=>absurd e (hd _ _ _ _),fun p bo sz ys e=>absurd e (hd _ _ _ _),fun p bo sz ys e=>absurd e (hd _ _ _ _),fun p bo sz ys e=>absurd e (hd _ _ _ _),by simp⟩
theorem QiI (hh:HR cx w A rs) {r:Nat} {q:QaO} {pv sz off len:Nat} {v:Value} (h:PR D A rs w (.slc r q pv sz off len) v) {R:Qaj} {s:Nat} {ro:Bool} {ys:Els} (hl:QcV rs r q pv=some (R,s,ro,ys)) :
 ∃ G,QaR w G (.deep false ro sz (wnd ys off len)) v∧v.oneCell'=true∧Qbg w ro sz G (wnd ys off len)∧off+len≤ys.length∧s=sz ∧
  (∀ f ρ b,V.Key sz ro G (wnd ys off len) f ρ b→R.Key (A r) f (q++Qoz off ρ) b):=by
 obtain ⟨h1,h2⟩:=Qb0 hl
 obtain ⟨hD,ad,cap,rfl,h3,h4,h5⟩:=h
 obtain ⟨rfl,h6,h7⟩:=(h5 R h1).2 s ro ys h2
 have ha:=Qaj.arr_of h2
 have ht:=hh.arr h1 ha
 have hkey:∀ {f ρ b top}, (∀ b o,top=some (b,o)→∃ o',(A r).from' q []=some (b,o'))→V.Key s ro (QoA ((A r).from' q) off top) (wnd ys off len) f ρ b→R.Key (A r) f (q++Qoz off ρ) b :=
  fun htop hk=>(Qsi h6 htop hk).sub ha
 rcases h7 with ⟨rfl,h8⟩|⟨b,oo,h8,h9,h10,h11⟩
 ·obtain rfl:len=0:=by omega
  refine ⟨QoA ((A r).from' q) off none, ?_,rfl,Qji ht h6 rfl,h6,rfl,fun f ρ b hk=>hkey (fun b o e=>by cases e) hk⟩
  simp only [QaR,QoA,HdR,QaS h6]
  exact ⟨trivial,ad,rfl⟩
 ·have e0:(A r).from' q []=some (b,oo):=by simpa [Gh.from'] using h8
  refine ⟨QoA ((A r).from' q) off (some (b,oo+off * s)), ?_,rfl,Qji ht h6 ⟨oo,e0,rfl⟩,h6,rfl,fun f ρ b' hk=>hkey (fun b2 o e=>by injection e with e;injection e with e1 e2;subst e1;exact ⟨oo,e0⟩) hk⟩
  simp only [QaR,QoA,HdR,QaS h6]
  refine ⟨cap,by rw [h9],h3, ?_⟩
  have:oo+off * s+cap * s=oo+(off+cap) * s:=by rw [Nat.add_mul];omega
  rw [this];exact h10
theorem Qsr (hh:HR cx w A rs) {av:AV} {v:Value} (h:PR D A rs w av v) {c:AV} {asx:List Nat} (hs:Qjq rs av=some (c,asx)):∃ G,Det cx w A rs G c v asx:=by
 unfold Qjq at hs
 split at hs <;> first|(cases hs;done)|skip
 ·injection hs with hs;injection hs with h1 h2;subst h1;subst h2
  simp only [PR] at h;subst h
  exact ⟨_, .plain rfl rfl (by intros;simp)⟩
 ·injection hs with hs;injection hs with h1 h2;subst h1;subst h2
  simp only [PR] at h;subst h
  exact ⟨_, .plain rfl rfl (by intros;simp)⟩
 ·injection hs with hs;injection hs with h1 h2;subst h1;subst h2
  simp only [PR] at h;subst h
  exact ⟨_, .plain rfl rfl (by intros;simp)⟩
 ·rename_i sz
  injection hs with hs;injection hs with h1 h2;subst h1;subst h2
  simp only [PR] at h;subst h
  have hk:∀ {f ρ b}, ¬V.Key sz false (fun _=>none) ([]:Els) f ρ b:=fun ⟨s,ys,o,_,h⟩=>by cases h
  refine ⟨fun _=>none,⟨rfl,none,rfl⟩,rfl,fun p bo s ys e => ?_,fun p bo s ys e ρ b h => ?_,fun p bo s ys e ρ ρ' b h => ?_,fun p bo s ys e ρ b h => ?_,by simp⟩ <;> cases e
  ·exact Qbg.mk' ⟨fun i el he=>by simp at he,rfl⟩ (fun i c p bo sz' zs hc=>by simp [QW] at hc)
  ·exact absurd h hk
  ·exact absurd h hk
  ·exact absurd h hk
 ·rename_i r q pv sz off len
  simp only [Option.bind_eq_some_iff] at hs
  obtain ⟨⟨R,s,ro,ys⟩,hl,hs⟩:=hs
  obtain ⟨G,h1,h2,h3,h4,rfl,h6⟩:=QiI hh h hl
  obtain ⟨hr,ha⟩:=Qb0 hl
  cases ro with
  | true =>
   simp only [if_true] at hs
   injection hs with hs;injection hs with h7 h8;subst h7;subst h8
   refine ⟨G,h1,h2,fun p bo sz ys e=>by cases e;exact h3,fun p bo sz ys e ρ b hk => ?_,fun p bo sz ys e ρ ρ' b hk => ?_,fun p bo sz ys e ρ b hk => ?_,by simp⟩ <;> cases e
   ·obtain ⟨s',zs,o,h9,h10⟩:=hk
    have:=Qcv _ h9;cases this
   ·obtain ⟨s',zs,o,h9,h10⟩:=hk
    have:=Qcv _ h9;cases this
   ·exact hh.sta r R _ b hr (h6 _ _ _ hk)
  | false =>
   simp only [Bool.false_eq_true,if_false] at hs
   cases q with
   | cons x q=>cases hs
   | nil =>
    simp only at hs
    injection hs with hs;injection hs with h7 h8;subst h7;subst h8
    refine ⟨G,h1,h2,fun p bo sz ys e=>by cases e;exact h3,fun p bo sz ys e ρ b hk => ?_,fun p bo sz ys e ρ ρ' b hk hk' => ?_,fun p bo sz ys e ρ b hk => ?_,by simp⟩ <;> cases e
    ·exact ⟨r,R,rfl,hr,_,h6 _ _ _ hk⟩
    ·have:=(hh.inj r R _ r R _ b hr (h6 _ _ _ hk) hr (h6 _ _ _ hk')).2
     exact Qjj (List.append_cancel_left this)
    ·exact hh.sta r R _ b hr (h6 _ _ _ hk)
def Qzi (cx:Cx) (w:World) (A:Nat→Gh) (rs:Rs) (G:Nat→Gh) (cs:List AV) (vs:List Value) (ass:List (List Nat)):Prop :=
 cs.length=vs.length∧∀ (j:Nat) av,cs[j]? = some av→∃ v al,vs[j]? = some v∧ass[j]? = some al∧Det cx w A rs (G j) av v al
theorem QdY:∀ {ass:List (List Nat)}, ass.flatten.Nodup→∀ {j j':Nat} {al al':List Nat} {r:Nat}, ass[j]? = some al→ass[j']? = some al'→r∈al→r∈al'→j=j'
 | [],_,j,j',al,al',r,h,_,_,_=>by simp at h
 | x::ass,hn,j,j',al,al',r,h,h',hr,hr'=>by
  rw [List.flatten_cons,List.nodup_append] at hn
  have mem:∀ {k:Nat} {l:List Nat}, ass[k]? = some l→∀ r∈l,r∈ass.flatten:=fun hk r hr=>List.mem_flatten.2 ⟨_,List.mem_of_getElem? hk,hr⟩
  cases j with
  | zero =>
   simp only [List.getElem?_cons_zero,Option.some.injEq] at h;subst h
   cases j' with
   | zero=>rfl
   | succ j'=>exact absurd rfl (hn.2.2 r hr r (mem (by simpa using h') r hr'))
  | succ j =>
   cases j' with
   | zero =>
    simp only [List.getElem?_cons_zero,Option.some.injEq] at h';subst h'
    exact absurd rfl (hn.2.2 r hr' r (mem (by simpa using h) r hr))
   | succ j' =>
    have:=QdY hn.2.1 (j:=j) (j':=j') (by simpa using h) (by simpa using h') hr hr'
    omega
theorem Qeu (hh:HR cx w A rs):∀ {cs:List AV} {vs:List Value}, Pw (PR D A rs w) cs vs→∀ {cs':List AV} {asx:List Nat}, Qdf rs cs=some (cs',asx) →
 ∃ G ass,Qzi cx w A rs G cs' vs ass∧asx=ass.flatten∧ass.length=cs'.length
 | [],vs,h,cs',asx,hs=>by
  simp only [Qdf,Option.some.injEq,Prod.mk.injEq] at hs
  obtain ⟨rfl,rfl⟩:=hs
  rw [h.nil_inv]
  exact ⟨fun _ _=>none,[],⟨rfl,fun j av e=>by simp at e⟩,rfl,rfl⟩
 | c::cs,vs,h,cs',asx,hs=>by
  obtain ⟨v,vs',rfl,h1,h2⟩:=h.head
  simp only [Qdf,Option.bind_eq_some_iff,Option.map_eq_some_iff] at hs
  obtain ⟨⟨c',a1⟩,h3,⟨cs2,a2⟩,h4,h5⟩:=hs
  injection h5 with h5 h6;subst h5;subst h6
  obtain ⟨G1,d1⟩:=Qsr hh h1 h3
  obtain ⟨G2,ass,d2,h7,h8⟩:=Qeu hh h2 h4
  refine ⟨fun j=>match j with|0=>G1|j+1=>G2 j,a1::ass,⟨by simp [d2.1],fun j av e => ?_⟩,by simp [h7],by simp [h8]⟩
  cases j with
  | zero=>simp only [List.getElem?_cons_zero,Option.some.injEq] at e;subst e;exact ⟨v,a1,rfl,rfl,d1⟩
  | succ j =>
   obtain ⟨v',al,e1,e2,e3⟩:=d2.2 j av (by simpa using e)
   exact ⟨v',al,by simpa using e1,by simpa using e2,e3⟩
structure Chg (M:Nat→Prop) (w w':World):Prop where
 size:w.heap.size≤w'.heap.size
 block:∀ b,b<w.heap.size→¬M b→w'.heap[b]? = w.heap[b]?
 big:∀ b n,Big w b n→Big w' b n
 os:w'.os=w.os
 tape:w'.tape=w.tape
 output:w'.output=w.output
 drawn:w.drawn≤w'.drawn
theorem Chg.refl (M:Nat→Prop) (w:World):Chg M w w:=⟨Nat.le_refl _,fun _ _ _=>rfl,fun _ _ h=>h,rfl,rfl,rfl,Nat.le_refl _⟩
theorem Key.lt {ro:Bool} {sz:Nat} {B:Gh} {xs:Els} (ht:Qbg w ro sz B xs) {f:Bool} {ρ:QaO} {b:Nat} (h:V.Key sz ro B xs f ρ b):b<w.heap.size:=by
 obtain ⟨s,ys,o,h1,h2⟩:=h
 have h3:=(ht ρ s f ys h1).2
 have e:B.from' ρ []=some (b,o):=by simpa [Gh.from'] using h2
 rw [e] at h3
 obtain ⟨cur,⟨e,fr,h4,_⟩,_⟩:=h3
 exact (Array.getElem?_eq_some_iff.1 h4).1
theorem Fr.chg {w0 w':World} {M:Nat→Prop} (h:Fr cx w0 w) (hc:Chg M w w') (hM:∀ b,M b→cx.base≤b∨cx.O b):Fr cx w0 w' :=
 ⟨Nat.le_trans h.base hc.size,fun b hb ho=>(hc.block b (Nat.lt_of_lt_of_le hb h.base) fun hm=>by rcases hM b hm with h|h;omega;exact ho h).trans (h.block b hb ho),
  hc.os.trans h.os,hc.tape.trans h.tape,hc.output.trans h.output,Nat.le_trans h.drawn hc.drawn⟩
theorem Qbn {asx:List Nat} {r:Nat} {R:Qaj} (h:kill rs asx r=some R):r∉asx∧rs r=some R:=by
 unfold kill at h
 split at h
 ·cases h
 ·exact ⟨‹_›, h⟩
theorem HR.newroot (hh:HR cx w A rs) {w':World} {M:Nat→Prop} (hc:Chg M w w') {asx:List Nat} {id:Nat} {R0:Qaj} {B:Gh}
 (hM:∀ b,M b→∃ r∈asx,∃ R ρ,rs r=some R∧R.Key (A r) false ρ b)
 (ht:Qbg w' (!R0.own) R0.sz B R0.xs)
 (hk:∀ ρ b,R0.Key B false ρ b→(cx.base≤b∧w.heap.size≤b)∨∃ r∈asx,∃ R ρ',rs r=some R∧R.Key (A r) false ρ' b)
 (hinj:∀ ρ ρ' b,R0.Key B false ρ b→R0.Key B false ρ' b→ρ=ρ') (hs:∀ ρ b,R0.Key B true ρ b→cx.S b) :
 HR cx w' (up' A id B) (up' (kill rs asx) id (some R0)):=by
 have notM:∀ r R f ρ b,r∉asx→rs r=some R→R.Key (A r) f ρ b→¬M b:=fun r R f ρ b hr e k hm=>by
  obtain ⟨r1,h1,R1,ρ1,h2,h3⟩:=hM b hm
  cases f with
  | false=>exact hr ((hh.inj r R ρ r1 R1 ρ1 b e k h2 h3).1▸h1)
  | true =>
   have h4:=cx.ok b (hh.sta r R ρ b e k)
   rcases hh.own r1 R1 ρ1 b h2 h3 with h|h
   ·omega
   ·exact h4.2 h
 have at_id:∀ {r R}, r=id→up' (kill rs asx) id (some R0) r=some R→R=R0∧up' A id B r=B:=fun e h=>by
  subst e;rw [Q6] at h;injection h with h;exact ⟨h.symm,Q6 _ _ _⟩
 have off_id:∀ {r R}, r≠id→up' (kill rs asx) id (some R0) r=some R→r∉asx∧rs r=some R∧up' A id B r=A r:=fun e h=>by
  rw [Qaz _ _ e] at h
  exact ⟨(Qbn h).1,(Qbn h).2,Qaz _ _ e⟩
 refine ⟨fun r R h => ?_,fun r R ρ b h k => ?_,fun r R ρ b h k => ?_,fun r R ρ r' R' ρ' b h k h' k' => ?_⟩
 ·by_cases e:r=id
  ·obtain ⟨rfl,e2⟩:=at_id e h;rw [e2];exact ht
  ·obtain ⟨h1,h2,h3⟩:=off_id e h
   rw [h3]
   exact (hh.tree r R h2).mono hc.big fun ρ f b k=>hc.block b (Key.lt (hh.tree r R h2) k) (notM r R f ρ b h1 h2 k)
 ·by_cases e:r=id
  ·obtain ⟨rfl,e2⟩:=at_id e h;rw [e2] at k
   rcases hk ρ b k with h1|⟨r1,_,R1,ρ1,h2,h3⟩
   ·exact .inl h1.1
   ·exact hh.own r1 R1 ρ1 b h2 h3
  ·obtain ⟨h1,h2,h3⟩:=off_id e h
   rw [h3] at k
   exact hh.own r R ρ b h2 k
 ·by_cases e:r=id
  ·obtain ⟨rfl,e2⟩:=at_id e h;rw [e2] at k;exact hs ρ b k
  ·obtain ⟨h1,h2,h3⟩:=off_id e h
   rw [h3] at k
   exact hh.sta r R ρ b h2 k
 ·have cross:∀ r R ρ ρ',r∉asx→rs r=some R→R.Key (A r) false ρ b→R0.Key B false ρ' b→False:=fun r R ρ ρ' hr h1 k1 k2=>by
   rcases hk ρ' b k2 with h3|⟨r1,h4,R1,ρ1,h2,h3⟩
   ·have:=Key.lt (hh.tree r R h1) k1;omega
   ·exact hr ((hh.inj r R ρ r1 R1 ρ1 b h1 k1 h2 h3).1▸h4)
  by_cases e:r=id
  ·obtain ⟨rfl,e2⟩:=at_id e h;rw [e2] at k
   by_cases e':r'=id
   ·obtain ⟨rfl,e3⟩:=at_id e' h';rw [e3] at k'
    exact ⟨e.trans e'.symm,hinj _ _ _ k k'⟩
   ·obtain ⟨h1,h2,h3⟩:=off_id e' h';rw [h3] at k'
    exact (cross _ _ _ _ h1 h2 k' k).elim
  ·obtain ⟨h1,h2,h3⟩:=off_id e h;rw [h3] at k
   by_cases e':r'=id
   ·obtain ⟨rfl,e3⟩:=at_id e' h';rw [e3] at k'
    exact (cross _ _ _ _ h1 h2 k k').elim
   ·obtain ⟨h4,h5,h6⟩:=off_id e' h';rw [h6] at k'
    exact hh.inj _ _ _ _ _ _ b h2 k h5 k'
structure Qcc (cx:Cx) (w0:World) (D D':Nat→Prop) (A:Nat→Gh) (rs:Rs) (w:World) (A':Nat→Gh) (rs':Rs) (w':World):Prop where
 heap:HR cx w' A' rs'
 le:Qgn D A rs A' rs'
 big:∀ b n,Big w b n→Big w' b n
 fr:Fr cx w0 w'
 ids:∀ r R,rs' r=some R→D' r
 size:w.heap.size≤w'.heap.size
 out:∀ b,b<w.heap.size→(∀ r R ρ,rs r=some R→¬R.Key (A r) false ρ b)→w'.heap[b]? = w.heap[b]?
 keys:∀ r R ρ b,rs' r=some R→R.Key (A' r) false ρ b→w.heap.size≤b∨∃ r0 R0 ρ0,rs r0=some R0∧R0.Key (A r0) false ρ0 b
theorem Qcc.still {w0 w w':World} {D D':Nat→Prop} {A A':Nat→Gh} {rs rs':Rs} (st:Qcc cx w0 D D' A rs w A' rs' w'):Qll A rs w A' rs' w':=⟨st.out,st.keys⟩
theorem Qhe {w0:World} {D':Nat→Prop} (hh:HR cx w A rs) (hf:Fr cx w0 w) (hi:∀ r R,rs r=some R→D r) {w':World} {M:Nat→Prop} (hc:Chg M w w') {asx:List Nat} {id:Nat} {R0:Qaj} {B:Gh}
 (hM:∀ b,M b→∃ r∈asx,∃ R ρ,rs r=some R∧R.Key (A r) false ρ b) (hid:¬D id) (hD:∀ r,D r→D' r) (hid':D' id)
 (ht:Qbg w' (!R0.own) R0.sz B R0.xs)
 (hk:∀ ρ b,R0.Key B false ρ b→(cx.base≤b∧w.heap.size≤b)∨∃ r∈asx,∃ R ρ',rs r=some R∧R.Key (A r) false ρ' b)
 (hinj:∀ ρ ρ' b,R0.Key B false ρ b→R0.Key B false ρ' b→ρ=ρ') (hs:∀ ρ b,R0.Key B true ρ b→cx.S b) :
 Qcc cx w0 D D' A rs w (up' A id B) (up' (kill rs asx) id (some R0)) w':=by
 refine ⟨hh.newroot hc hM ht hk hinj hs,⟨fun x hx _=>Qaz _ _ fun e=>hid (e▸hx),fun r R' hDr h => ?_⟩,hc.big,hf.chg hc fun b hm => ?_,fun r R h => ?_,hc.size,fun b hb hno=>hc.block b hb fun hm => ?_,fun r R ρ b h k => ?_⟩
 rotate_left 3
 ·obtain ⟨r1,_,R1,ρ1,h2,h3⟩:=hM b hm
  exact hno r1 R1 ρ1 h2 h3
 ·by_cases e:r=id
  ·subst e
   rw [Q6] at h k
   injection h with h;subst h
   rcases hk ρ b k with h1|⟨r1,_,R1,ρ1,h2,h3⟩
   ·exact .inl h1.2
   ·exact .inr ⟨r1,R1,ρ1,h2,h3⟩
  ·rw [Qaz _ _ e] at h k
   exact .inr ⟨r,R,ρ,(Qbn h).2,k⟩
 ·have e:r≠id:=fun e=>hid (e▸hDr)
  rw [Qaz _ _ e] at h
  rw [Qaz _ _ e]
  exact ⟨R',(Qbn h).2,Nat.le_refl _,rfl,rfl,rfl,rfl,fun _ q s ro ys' h'=>⟨ys',h',rfl,rfl⟩⟩
 ·obtain ⟨r1,_,R1,ρ1,h2,h3⟩:=hM b hm
  exact hh.own r1 R1 ρ1 b h2 h3
 ·by_cases e:r=id
  ·exact e▸hid'
  ·rw [Qaz _ _ e] at h
   exact hD r (hi r R (Qbn h).2)
end
end Go.Proofs.YtallpjhkmcgpoaaGreat.V
end
section
namespace Go.Proofs.YtallpjhkmcgpoaaGreat.V
open Go
theorem Qct (w:World) (o:Obj):({ w with heap:=w.heap.push o } : World).heap[w.heap.size]? = some o:=by simp
theorem Qg9 (w:World) (o:Obj):Chg (fun _=>False) w { w with heap:=w.heap.push o } := by
 have hb:∀ b,b<w.heap.size→(w.heap.push o)[b]? = w.heap[b]? := fun b hb=>by
  rw [Array.getElem?_push];rw [if_neg (by omega)]
 refine ⟨by simp,fun b h _=>hb b h,fun b n ⟨cur,e,fr,h,h'⟩=>⟨cur,e,fr, ?_,h'⟩,rfl,rfl,rfl,Nat.le_refl _⟩
 rw [show ({ w with heap:=w.heap.push o } : World).heap[b]? = w.heap[b]? from hb b (Array.getElem?_eq_some_iff.1 h).1];exact h
section
variable {P:Program} {D D':Nat→Prop} {A:Nat→Gh} {rs:Rs} {w:World} {cx:Cx} {w0:World}
def Qr0 (top:Nat×Nat) (G:Nat→Nat→Gh):Gh:=fun ρ=>match ρ with
 | []=>some top
 | (i,c)::ρ=>G i c ρ
theorem Qiz (hh:HR cx w A rs) (hf:Fr cx w0 w) (hi:∀ r R,rs r=some R→D r) {w':World} {M:Nat→Prop} (hc:Chg M w w') {asx:List Nat} {id:Nat} {xs:Els} {sz b o:Nat}
 (hM:∀ b,M b→∃ r∈asx,∃ R ρ,rs r=some R∧R.Key (A r) false ρ b) (hid:¬D id) (hD:∀ r,D r→D' r) (hid':D' id)
 {cur:Array Value} (hb:Blk w' b false cur) (hnew:(cx.base≤b∧w.heap.size≤b)∨∃ r∈asx,∃ R ρ',rs r=some R∧R.Key (A r) false ρ' b)
 {G:Nat→Nat→Gh}
 (hlen:∀ (i:Nat) el,xs[i]? = some el→el.length=sz)
 (hcell:∀ i c cell,QW xs i c=some cell→∃ v,cur[o+i * sz+c]? = some v∧v.oneCell'=true∧QaR w' (G i c) cell v)
 (htree:∀ i c p bo s ys,QW xs i c=some (.deep p bo s ys)→Qbg w' bo s (G i c) ys)
 (hown:∀ i c p bo s ys ρ b',QW xs i c=some (.deep p bo s ys)→V.Key s bo (G i c) ys false ρ b'→∃ r∈asx,∃ R ρ',rs r=some R∧R.Key (A r) false ρ' b')
 (hsta:∀ i c p bo s ys ρ b',QW xs i c=some (.deep p bo s ys)→V.Key s bo (G i c) ys true ρ b'→cx.S b')
 (hap:∀ i c p bo s ys ρ i' c' p' bo' s' ys' ρ' b',QW xs i c=some (.deep p bo s ys)→V.Key s bo (G i c) ys false ρ b'→QW xs i' c'=some (.deep p' bo' s' ys')→V.Key s' bo' (G i' c') ys' false ρ' b'→i=i'∧c=c'∧ρ=ρ')
 (htop:∀ i c p bo s ys ρ,QW xs i c=some (.deep p bo s ys)→¬V.Key s bo (G i c) ys false ρ b) :
 Qcc cx w0 D D' A rs w (up' A id (Qr0 (b,o) G)) (up' (kill rs asx) id (some ⟨true,sz,0,xs⟩)) w':=by
 have kcons:∀ {f i c ρ b'}, Qaj.Key ⟨true,sz,0,xs⟩ (Qr0 (b,o) G) f ((i,c)::ρ) b'→∃ p bo s ys,QW xs i c=some (.deep p bo s ys)∧V.Key s bo (G i c) ys f ρ b':=fun ⟨s,ys,o',h1,h2⟩=>by
  obtain ⟨p,bo,s',zs,h3,h4⟩:=QaZ h1
  exact ⟨p,bo,s',zs,h3,s,ys,o',by simpa using h4,h2⟩
 have knil:∀ {f b'}, Qaj.Key ⟨true,sz,0,xs⟩ (Qr0 (b,o) G) f [] b'→f=false∧b'=b:=fun ⟨s,ys,o',h1,h2⟩=>by
  simp only [QaB,Option.some.injEq,Prod.mk.injEq,Bool.not_true] at h1
  simp only [Qr0,Option.some.injEq,Prod.mk.injEq] at h2
  exact ⟨h1.2.1.symm,h2.1.symm⟩
 refine Qhe hh hf hi hc hM hid hD hid' ?_ ?_ ?_ ?_
 ·refine Qbg.mk' ⟨hlen, ?_⟩ fun i c p bo s ys hcl => ?_
  ·simp only [Qr0]
   refine ⟨cur,by simpa using hb,fun i c cell hcl => ?_⟩
   obtain ⟨v,h1,h2,h3⟩:=hcell i c cell hcl
   exact ⟨v,h1,h2,h3⟩
  ·have:=htree i c p bo s ys hcl
   simp only [Bool.not_true,Bool.false_or];exact this
 ·intro ρ b' k
  cases ρ with
  | nil=>rw [(knil k).2];exact hnew
  | cons x ρ =>
   obtain ⟨i,c⟩:=x
   obtain ⟨p,bo,s,ys,h1,h2⟩:=kcons k
   exact .inr (hown i c p bo s ys ρ b' h1 h2)
 ·intro ρ ρ' b' k k'
  cases ρ with
  | nil =>
   cases ρ' with
   | nil=>rfl
   | cons x ρ' =>
    obtain ⟨i,c⟩:=x
    obtain ⟨p,bo,s,ys,h1,h2⟩:=kcons k'
    rw [(knil k).2] at h2
    exact absurd h2 (htop i c p bo s ys ρ' h1)
  | cons x ρ =>
   obtain ⟨i,c⟩:=x
   obtain ⟨p,bo,s,ys,h1,h2⟩:=kcons k
   cases ρ' with
   | nil =>
    rw [(knil k').2] at h2
    exact absurd h2 (htop i c p bo s ys ρ h1)
   | cons x ρ' =>
    obtain ⟨i',c'⟩:=x
    obtain ⟨p',bo',s',ys',h1',h2'⟩:=kcons k'
    obtain ⟨rfl,rfl,rfl⟩:=hap _ _ _ _ _ _ _ _ _ _ _ _ _ _ _ h1 h2 h1' h2'
    rfl
 ·intro ρ b' k
  cases ρ with
  | nil=>exact absurd (knil k).1 (by simp)
  | cons x ρ =>
   obtain ⟨i,c⟩:=x
   obtain ⟨p,bo,s,ys,h1,h2⟩:=kcons k
   exact hsta i c p bo s ys ρ b' h1 h2
theorem Qp1 (hh:HR cx w A rs) (hf:Fr cx w0 w) (hi:∀ r R,rs r=some R→D r) {w':World} {M:Nat→Prop} (hc:Chg M w w') {asx:List Nat} {id:Nat} {xs:Els} {sz b o:Nat}
 (hM:∀ b,M b→∃ r∈asx,∃ R ρ,rs r=some R∧R.Key (A r) false ρ b) (hid:¬D id) (hD:∀ r,D r→D' r) (hid':D' id)
 {cur:Array Value} (hb:Blk w' b false cur) (hnew:(cx.base≤b∧w.heap.size≤b)∨∃ r∈asx,∃ R ρ',rs r=some R∧R.Key (A r) false ρ' b)
 {G:Nat→Nat→Gh} {al:Nat→Nat→List Nat}
 (hlen:∀ (i:Nat) el,xs[i]? = some el→el.length=sz)
 (hcell:∀ i c cell,QW xs i c=some cell→∃ v,cur[o+i * sz+c]? = some v∧Det cx w A rs (G i c) cell v (al i c)∧∀ r∈al i c,r∈asx)
 (htree:∀ i c p bo s ys,QW xs i c=some (.deep p bo s ys)→Qbg w' bo s (G i c) ys)
 (hap:∀ i c i' c' r,r∈al i c→r∈al i' c'→i=i'∧c=c')
 (htop:∀ i c p bo s ys ρ,QW xs i c=some (.deep p bo s ys)→¬V.Key s bo (G i c) ys false ρ b) :
 Qcc cx w0 D D' A rs w (up' A id (Qr0 (b,o) G)) (up' (kill rs asx) id (some ⟨true,sz,0,xs⟩)) w':=by
 have kown:∀ {i c p bo s ys ρ b'}, QW xs i c=some (.deep p bo s ys)→V.Key s bo (G i c) ys false ρ b'→∃ r R ρ',r∈al i c∧r∈asx∧rs r=some R∧R.Key (A r) false ρ' b':=fun {i c p bo s ys ρ b'} hcl hk=>by
  obtain ⟨v,_,hd,hal⟩:=hcell i c _ hcl
  obtain ⟨r,R,e1,e2,ρ',e3⟩:=hd.own p bo s ys rfl ρ b' hk
  exact ⟨r,R,ρ',by rw [e1];simp,hal r (by rw [e1];simp),e2,e3⟩
 refine Qiz hh hf hi hc hM hid hD hid' hb hnew hlen (fun i c cell hcl => ?_) htree (fun i c p bo s ys ρ b' h1 h2 => ?_) (fun i c p bo s ys ρ b' h1 h2 => ?_) (fun i c p bo s ys ρ i' c' p' bo' s' ys' ρ' b' h1 h2 h1' h2' => ?_) htop
 ·obtain ⟨v,h1,h2,_⟩:=hcell i c cell hcl
  exact ⟨v,h1,h2.one,h2.cell.mono hc.big⟩
 ·obtain ⟨r,R,ρ',_,h3,h4,h5⟩:=kown h1 h2
  exact ⟨r,h3,R,ρ',h4,h5⟩
 ·obtain ⟨v,_,hd,_⟩:=hcell i c _ h1
  exact hd.sta p bo s ys rfl ρ b' h2
 ·obtain ⟨r,R,ρ1,h3,_,h4,h5⟩:=kown h1 h2
  obtain ⟨r',R',ρ1',h3',_,h4',h5'⟩:=kown h1' h2'
  obtain ⟨rfl,_⟩:=hh.inj _ _ _ _ _ _ b' h4 h5 h4' h5'
  obtain ⟨rfl,rfl⟩:=hap _ _ _ _ _ h3 h3'
  rw [h1] at h1';injection h1' with h1';injection h1' with e1 e2 e3 e4;subst e2;subst e3;subst e4
  obtain ⟨v,_,hd,_⟩:=hcell i c _ h1
  exact ⟨rfl,rfl,hd.inj _ _ _ _ rfl _ _ b' h2 h2'⟩
theorem QjH {cur:Array Value} {xs:Els} {sz:Nat} (hsz:cur.size=xs.length * sz) (hlen:∀ (i:Nat) el,xs[i]? = some el→el.length=sz)
 (hcell:∀ i c cell,QW xs i c=some cell→∃ v,cur[i * sz+c]? = some v∧v.oneCell'=true):One cur:=by
 intro v hv
 obtain ⟨k,hk⟩:=List.getElem?_of_mem hv
 rw [Array.getElem?_toList] at hk
 have hlt:=(Array.getElem?_eq_some_iff.1 hk).1
 have hpos:0<sz:=by
  rcases Nat.eq_zero_or_pos sz with h|h
  ·rw [hsz,h,Nat.mul_zero] at hlt;omega
  ·exact h
 have hi:k / sz<xs.length:=by rw [Nat.div_lt_iff_lt_mul hpos, ←hsz];exact hlt
 have he:=hlen _ _ (List.getElem?_eq_getElem hi)
 have hc:k % sz<(xs[k / sz]).length:=by rw [he];exact Nat.mod_lt _ hpos
 obtain ⟨u,h1,h2⟩:=hcell (k / sz) (k % sz) _ (QbN (List.getElem?_eq_getElem hi) (List.getElem?_eq_getElem hc))
 have e:k / sz * sz+k % sz=k:=by rw [Nat.mul_comm];exact Nat.div_add_mod k sz
 rw [e,hk] at h1
 injection h1 with h1;subst h1
 exact h2
theorem Qfa (hh:HR cx w A rs) (hf:Fr cx w0 w) (hi:∀ r R,rs r=some R→D r) {asx:List Nat} {id:Nat} {xs:Els} {sz e:Nat}
 (hid:¬D id) (hD:∀ r,D r→D' r) (hid':D' id) {cur:Array Value} {G:Nat→Nat→Gh} {al:Nat→Nat→List Nat} (hsz:cur.size=xs.length * sz)
 (hlen:∀ (i:Nat) el,xs[i]? = some el→el.length=sz)
 (hcell:∀ i c cell,QW xs i c=some cell→∃ v,cur[i * sz+c]? = some v∧Det cx w A rs (G i c) cell v (al i c)∧∀ r∈al i c,r∈asx)
 (hap:∀ i c i' c' r,r∈al i c→r∈al i' c'→i=i'∧c=c') :
 Qcc cx w0 D D' A rs w (up' A id (Qr0 (w.heap.size,0) G)) (up' (kill rs asx) id (some ⟨true,sz,0,xs⟩)) { w with heap:=w.heap.push (.cells cur e) } := by
 have hc:=Qg9 w (.cells cur e)
 have key_lt:∀ {i c p bo s ys}, QW xs i c=some (.deep p bo s ys)→Qbg w bo s (G i c) ys:=fun {i c p bo s ys} hcl=>by
  obtain ⟨v,_,hd,_⟩:=hcell i c _ hcl
  exact hd.tree p bo s ys rfl
 refine Qp1 hh hf hi hc (fun b h=>h.elim) hid hD hid' (b:=w.heap.size) (o:=0) (cur:=cur) ⟨e,(0,0),Qct w _,fun _=>⟨rfl,QjH hsz hlen fun i c cell h=>let ⟨v,h1,h2,_⟩:=hcell i c cell h;⟨v,h1,h2.one⟩⟩⟩ (.inl ⟨hf.base,Nat.le_refl _⟩) hlen
  (fun i c cell hcl=>by simpa using hcell i c cell hcl) (fun i c p bo s ys hcl => ?_) hap (fun i c p bo s ys ρ hcl hk => ?_)
 ·exact (key_lt hcl).mono hc.big fun ρ f b k=>hc.block b (Key.lt (key_lt hcl) k) (fun h=>h)
 ·have:=Key.lt (key_lt hcl) hk;omega
theorem Qmu {id b o:Nat} {R:Qaj} (hid':D' id) {A':Nat→Gh} {rs':Rs} {w':World} (hr:rs' id=some R) (hA:A' id []=some (b,o)):PR D' A' rs' w' (.ptr id [] 0 0 0) (.pointer (some ⟨b,o,none⟩)) :=
 ⟨hid',_,rfl,fun R' hR'=>⟨fun h=>absurd rfl h,fun s ro ys ha el hel=>⟨b,o,hA,by simp⟩⟩⟩
theorem QfP {id b o n cap sz:Nat} {R:Qaj} (hid':D' id) {A':Nat→Gh} {rs':Rs} {w':World} (hr:rs' id=some R) (hA:A' id []=some (b,o)) (hs:R.sz=sz) (hn:n≤R.xs.length) (hcap:R.xs.length≤cap)
 (hbig:Big w' b (o+cap * sz,true)):PR D' A' rs' w' (.slc id [] 0 sz 0 n) (.slice (some ⟨b,o,none⟩) n cap) :=
 ⟨hid',_,cap,rfl,by omega,(fun h=>by cases h),fun R' hR'=>⟨fun h=>absurd rfl h,fun s ro ys ha=>by
  rw [hr] at hR';injection hR' with hR';subst hR'
  simp only [Qaj.arr,Option.some.injEq,Prod.mk.injEq] at ha
  obtain ⟨rfl,_,rfl⟩:=ha
  exact ⟨hs,by omega, .inr ⟨b,o,hA,by simp,by rw [Nat.zero_add];exact hbig.any,by omega⟩⟩⟩⟩
end
end Go.Proofs.YtallpjhkmcgpoaaGreat.V
end
section
namespace Go.Proofs.YtallpjhkmcgpoaaGreat.V
open Go
def Qow:AV→Value→Bool
 | .deep false false _ [], .slice none 0 0=>true
 | x,v=>match x with
  | .nl _=>false
  | _=>Qq5 x v
def Qeq:List AV→List Value→Bool
 | [],[]=>true
 | x::xs,v::vs=>Qow x v && Qeq xs vs
 | _,_=>false
def QdD (P:Program) (t:Nat) (zero:List AV):Bool:=(P.info? t).any fun i=>i.size == zero.length && i.zero.any fun z=>Qeq zero z.cells.toList
section
variable {P:Program} {D D':Nat→Prop} {A:Nat→Gh} {rs:Rs} {w:World} {cx:Cx} {w0:World} {tm:Tm} {a:Act} {o:Oper}
def Qa8 (P:Program) (a:Act) (o:Oper) (w:World) (v:Value) (w':World):Prop:=(execOp a.eval o).run P w = .ok (.value v) w'
theorem QfC {x:AV} {v:Value} (h:Qow x v=true):Det cx w A rs (fun _=>none) x v []:=by
 unfold Qow at h
 split at h
 ·rename_i sz
  have hk:∀ {f ρ b}, ¬V.Key sz false (fun _=>none) ([]:Els) f ρ b:=fun ⟨s,ys,o,_,h⟩=>by cases h
  refine ⟨⟨rfl,none,rfl⟩,rfl,fun p bo s ys e => ?_,fun p bo s ys e ρ b h => ?_,fun p bo s ys e ρ ρ' b h => ?_,fun p bo s ys e ρ b h => ?_,by simp⟩ <;> cases e
  ·exact Qbg.mk' ⟨fun i el he=>by simp at he,rfl⟩ (fun i c p bo sz' zs hc=>by simp [QW] at hc)
  ·exact absurd h hk
  ·exact absurd h hk
  ·exact absurd h hk
 ·split at h
  ·cases h
  ·rename_i hn
   have h1:=QiX (D:=fun _=>True) (A:=A) (rs:=rs) (w:=w) h
   unfold Qq5 at h
   split at h <;> first
    | (simp only [PR] at h1;exact .plain (by simpa only [QaR] using h1) rfl (by intros;simp))
    | (exact absurd rfl (hn _))
    | cases h
theorem Qde:∀ {xs:List AV} {vs:List Value}, Qeq xs vs=true→xs.length=vs.length∧∀ (c:Nat) x,xs[c]? = some x→∃ v,vs[c]? = some v∧Qow x v=true
 | [],[],_=>⟨rfl,fun c x h=>by simp at h⟩
 | x::xs,v::vs,h=>by
  simp only [Qeq,Bool.and_eq_true] at h
  have ih:=Qde h.2
  refine ⟨by simp [ih.1],fun c y hc => ?_⟩
  cases c with
  | zero=>simp only [List.getElem?_cons_zero,Option.some.injEq] at hc;subst hc;exact ⟨v,rfl,h.1⟩
  | succ c=>simpa using ih.2 c y (by simpa using hc)
 | [],_::_,h=>by simp [Qeq] at h
 | _::_,[],h=>by simp [Qeq] at h
theorem Qdd {t:Nat} {zero:List AV} (h:QdD P t zero=true):∃ i z,P.info? t=some i∧i.zero=some z∧i.size=zero.length∧Qeq zero z.cells.toList=true ∧
 ∀ w:World,(zeroValue t).run P w = .ok z w∧(sizeOf t).run P w = .ok zero.length w:=by
 unfold QdD at h
 cases e:P.info? t with
 | none=>simp [e] at h
 | some i =>
  simp only [e,Option.any_some,Bool.and_eq_true,beq_iff_eq] at h
  cases e':i.zero with
  | none=>simp [e'] at h
  | some z =>
   simp only [e',Option.any_some] at h
   refine ⟨i,z,rfl,e',h.1,h.2,fun w=>⟨?_, ?_⟩⟩
   ·simp only [zeroValue,Sem.run_bind,Qbf e,Result.andThen_ok,e',Sem.run_pure]
   ·simp only [sizeOf,Sem.run_bind,Qbf e,Result.andThen_ok,h.1,Sem.run_pure]
theorem QeU (t:Nat) (v:Value):(newVar t v).run P w = .ok ⟨w.heap.size,0,none⟩ { w with heap:=w.heap.push (.cells v.cells t) } := by
 simp only [newVar,newRow,Sem.run_bind,run_newObj,Result.andThen_ok,Sem.run_pure]
theorem QeS {x:AV} {c:List AV} {asx:List Nat} (h:Qdf rs x.cells=some (c,asx)):(∀ f cs,x ≠ .fn f cs)∧(∀ vs,x ≠ .tup vs)∧x ≠ .undef∧∀ cs c,x ≠ .bx cs c:=by
 refine ⟨fun f cs e => ?_,fun vs e => ?_,fun e => ?_,fun cs c e => ?_⟩ <;> subst e <;> simp [AV.cells,Qdf,Qjq] at h
theorem QoT (h:TR D A rs w tm a) (hh:HR cx w A rs) (hf:Fr cx w0 w) (hi:∀ r R,rs r=some R→D r) {e:Nat} {x:Operand} {x':X} (ho:o.op = .box e x) (hx:xOk x x'=true) (hval:Qh9 (x'.ev tm)=true) (hD:∀ r,D r→D' r) :
 ∃ v w' A',Qa8 P a o w v w'∧Qcc cx w0 D D' A rs w A' rs w'∧VR D' A' rs w' (.bx (x'.ev tm).cells 0) v:=by
 have hp:Pw (PR D A rs w) (x'.ev tm).cells (a.eval x).cells.toList:=by
  refine (h.ev hx).cells (fun f cs e1 => ?_) (fun vs e1 => ?_) (fun e1 => ?_) (fun cs c e1 => ?_) <;> rw [e1] at hval <;> cases hval
 have hc:=Qg9 w (.cells (a.eval x).cells e)
 have st:Qcc cx w0 D D' A rs w A rs { w with heap:=w.heap.push (.cells (a.eval x).cells e) } :=
  ⟨⟨fun r R e1=>(hh.tree r R e1).mono hc.big fun ρ f b k=>hc.block b (Key.lt (hh.tree r R e1) k) (fun h=>h),hh.own,hh.sta,hh.inj⟩,Qgn.refl _ _ _,hc.big,hf.chg hc fun b hm=>hm.elim,fun r R e1=>hD r (hi r R e1),hc.size,fun b hb _=>hc.block b hb (fun h=>h),fun r R ρ b e1 k => .inr ⟨r,R,ρ,e1,k⟩⟩
 refine ⟨_,_,A,by simp only [Qa8,execOp,ho,Instr.box,Sem.run_bind,QeU,Result.andThen_ok,Sem.run_pure];rfl,st, ?_⟩
 simp only [VR]
 refine ⟨_,_,e,rfl,Qct w _,hp.mono fun _ _ g=>g.mono hD st.le st.big,fun r R ρ e1 k => ?_⟩
 have:=Key.lt (hh.tree r R e1) k
 omega
theorem Qe6 {vs:List AV} {i c:Nat} {x:AV} (h:QW [vs] i c=some x):i=0∧vs[c]? = some x:=by
 obtain ⟨el,h1,h2⟩:=Qas h
 cases i with
 | zero=>simp only [List.getElem?_cons_zero,Option.some.injEq] at h1;subst h1;exact ⟨rfl,h2⟩
 | succ i=>simp at h1
theorem QsG (h:TR D A rs w tm a) (hh:HR cx w A rs) (hf:Fr cx w0 w) (hi:∀ r R,rs r=some R→D r) {e n id:Nat} {x:Operand} {x':X} (ho:o.op = .box e x) (hx:xOk x x'=true)
 {vs:List AV} {asx:List Nat} (hs:Qdf rs (x'.ev tm).cells=some (vs,asx)) (hn:vs.length=n) (hnd:asx.Nodup) (hid:¬D id) (hD:∀ r,D r→D' r) (hid':D' id) :
 ∃ v w' A',Qa8 P a o w v w'∧Qcc cx w0 D D' A rs w A' (up' (kill rs asx) id (some ⟨true,n,0,[vs]⟩)) w'∧VR D' A' (up' (kill rs asx) id (some ⟨true,n,0,[vs]⟩)) w' (.ptr id [] 0 0 0) v:=by
 obtain ⟨f1,f2,f3,f4⟩:=QeS hs
 have hp:=(h.ev hx).cells f1 f2 f3 f4
 obtain ⟨G,ass,hd,rfl,hl⟩:=Qeu hh hp hs
 subst hn
 have hst:=Qfa (D':=D') (e:=e) hh hf hi (asx:=ass.flatten) (xs:=[vs]) (sz:=vs.length) hid hD hid' (cur:=(a.eval x).cells) (G:=fun _ c=>G c) (al:=fun i c=>if i=0 then ass.getD c [] else []) (by have:=hd.1;simpa using this.symm)
  (fun i el hel=>by cases i <;> simp at hel;rw [hel])
  (fun i c cell hc=>by
   obtain ⟨rfl,h1⟩:=Qe6 hc
   obtain ⟨v,al,h2,h3,h4⟩:=hd.2 c cell h1
   refine ⟨v,by simpa using h2,by simpa [List.getD_eq_getElem?_getD,h3] using h4,fun r hr => ?_⟩
   simp only [if_true,List.getD_eq_getElem?_getD,h3,Option.getD_some] at hr
   exact List.mem_flatten.2 ⟨al,List.mem_of_getElem? h3,hr⟩)
  (fun i c i' c' r hr hr'=>by
   by_cases e1:i=0 <;> by_cases e2:i'=0 <;> simp only [e1,e2,if_true,if_false,List.not_mem_nil] at hr hr'
   refine ⟨by rw [e1,e2], ?_⟩
   rw [List.getD_eq_getElem?_getD] at hr hr'
   cases e3:ass[c]? with
   | none=>simp [e3] at hr
   | some l =>
    cases e4:ass[c']? with
    | none=>simp [e4] at hr'
    | some l'=>exact QdY hnd e3 e4 (by simpa [e3] using hr) (by simpa [e4] using hr'))
 refine ⟨.pointer (some ⟨w.heap.size,0,none⟩),_,_, ?_,hst,(Qmu hid' (Q6 _ _ _) (by rw [Q6];rfl)).vr⟩
 simp only [Qa8,execOp,ho,Instr.box,Sem.run_bind,QeU,Result.andThen_ok,Sem.run_pure]
theorem QlT (hh:HR cx w A rs) (hf:Fr cx w0 w) (hi:∀ r R,rs r=some R→D r) {e id:Nat} (ho:o.op = .alloc e) {zero:List AV} (hz:QdD P e zero=true)
 (hid:¬D id) (hD:∀ r,D r→D' r) (hid':D' id) :
 ∃ v w' A',Qa8 P a o w v w'∧Qcc cx w0 D D' A rs w A' (up' rs id (some ⟨true,zero.length,0,[zero]⟩)) w'∧VR D' A' (up' rs id (some ⟨true,zero.length,0,[zero]⟩)) w' (.ptr id [] 0 0 0) v:=by
 obtain ⟨i,z,h1,h2,h3,h4,h5⟩:=Qdd hz
 have hz2:=Qde h4
 have hk:kill rs []=rs:=by funext r;simp [kill]
 have hst:=Qfa (D':=D') (e:=e) hh hf hi (asx:=[]) (xs:=[zero]) (sz:=zero.length) hid hD hid' (cur:=z.cells) (G:=fun _ _ _=>none) (al:=fun i c=>[]) (by have:=hz2.1;simpa using this.symm)
  (fun i el hel=>by cases i <;> simp at hel;rw [hel])
  (fun i c cell hc=>by
   obtain ⟨rfl,h1⟩:=Qe6 hc
   obtain ⟨v,h2,h3⟩:=hz2.2 c cell h1
   exact ⟨v,by simpa using h2,QfC h3,fun r hr=>by simp at hr⟩)
  (fun i c i' c' r hr hr'=>by simp at hr)
 rw [hk] at hst
 refine ⟨.pointer (some ⟨w.heap.size,0,none⟩),_,_, ?_,hst,(Qmu hid' (Q6 _ _ _) (by rw [Q6];rfl)).vr⟩
 simp only [Qa8,execOp,ho,Instr.alloc,Sem.run_bind,(h5 _).1,QeU,Result.andThen_ok,Sem.run_pure]
end
end Go.Proofs.YtallpjhkmcgpoaaGreat.V
end
section
namespace Go.Proofs.YtallpjhkmcgpoaaGreat.V
open Go
def QfR:List (Nat×Operand)→List (Nat×X)→Bool
 | [],[]=>true
 | (j,x)::ps,(j',y)::qs=>j == j' && xOk x y && QfR ps qs
 | _,_=>false
theorem QkH (off:Nat) (v:Array Value) (cs:Array Value):(v.zipIdx.foldl (fun cs (c,j)=>cs.setIfInBounds (off+j) c) cs).size=cs.size ∧
 ∀ k,(v.zipIdx.foldl (fun cs (c,j)=>cs.setIfInBounds (off+j) c) cs)[k]? = if off≤k∧k<off+v.size∧k<cs.size then v[k-off]? else cs[k]? := by
 have h:=Great.foldl_set off v.toList 0 cs
 rw [←Array.foldl_toList,Array.toList_zipIdx]
 refine ⟨h.1,fun k => ?_⟩
 have:=h.2 k
 simpa using this
section
variable {P:Program} {D D':Nat→Prop} {A:Nat→Gh} {rs:Rs} {w:World} {cx:Cx} {w0:World} {tm:Tm} {a:Act} {o:Oper}
structure Qt1 (cx:Cx) (w:World) (A:Nat→Gh) (rs:Rs) (sz:Nat) (xs:Els) (cur:Array Value) (asx:List Nat) (G:Nat→Nat→Gh) (al:Nat→Nat→List Nat):Prop where
 size:cur.size=xs.length * sz
 len:∀ (i:Nat) el,xs[i]? = some el→el.length=sz
 cell:∀ i c cell,QW xs i c=some cell→∃ v,cur[i * sz+c]? = some v∧Det cx w A rs (G i c) cell v (al i c)
 mem:∀ i c r,r∈al i c→r∈asx
 apart:asx.Nodup→∀ i c i' c' r,r∈al i c→r∈al i' c'→i=i'∧c=c'
theorem Qhw {xs:Els} {sz i c:Nat} {x:AV} (hlen:∀ (i:Nat) el,xs[i]? = some el→el.length=sz) (h:QW xs i c=some x):i<xs.length∧c<sz:=by
 obtain ⟨el,h1,h2⟩:=Qas h
 have:=hlen i el h1
 exact ⟨(List.getElem?_eq_some_iff.1 h1).1,by have:=(List.getElem?_eq_some_iff.1 h2).1;omega⟩
theorem Qrj {sz i i' c c':Nat} (hc:c<sz) (hc':c'<sz) (h:i≠i'):¬(i' * sz≤i * sz+c∧i * sz+c<i' * sz+sz):=by
 intro ⟨h1,h2⟩
 rcases Nat.lt_or_gt_of_ne h with h|h
 ·have:(i+1) * sz≤i' * sz:=Nat.mul_le_mul_right _ h
  rw [Nat.add_mul] at this;omega
 ·have:(i'+1) * sz≤i * sz:=Nat.mul_le_mul_right _ h
  rw [Nat.add_mul] at this;omega
theorem Qnr (h:TR D A rs w tm a) (hh:HR cx w A rs) {sz:Nat} : ∀ {ps:List (Nat×Operand)} {qs:List (Nat×X)}, QfR ps qs=true →
 ∀ {xs:Els} {cur:Array Value} {asx:List Nat} {G al}, Qt1 cx w A rs sz xs cur asx G al→∀ {xs':Els} {as':List Nat}, evI.go tm rs qs xs asx=some (xs',as') →
 ∃ cur' G' al',Instr.fill (fun i=>some (i * sz,sz)) cur (ps.map fun (i,x)=>(i,a.eval x))=some cur'∧Qt1 cx w A rs sz xs' cur' as' G' al'∧xs'.length=xs.length
 | [],[],_,xs,cur,asx,G,al,hF,xs',as',hg=>by
  simp only [evI.go,Option.some.injEq,Prod.mk.injEq] at hg
  obtain ⟨rfl,rfl⟩:=hg
  exact ⟨cur,G,al,rfl,hF,rfl⟩
 | (j,x)::ps,(j',y)::qs,hk,xs,cur,asx,G,al,hF,xs',as',hg=>by
  simp only [QfR,Bool.and_eq_true,beq_iff_eq] at hk
  obtain ⟨⟨rfl,hx⟩,hk⟩:=hk
  simp only [evI.go,Option.bind_eq_some_iff] at hg
  obtain ⟨⟨vs,as1⟩,hs,hg⟩:=hg
  split at hg
  ·rename_i hlen
   simp only [Option.map_eq_some_iff] at hlen
   obtain ⟨el,hel,hlen⟩:=hlen
   have hsz:=hF.len j el hel
   have hj:j<xs.length:=(List.getElem?_eq_some_iff.1 hel).1
   obtain ⟨f1,f2,f3,f4⟩:=QeS hs
   have hp:=(h.ev hx).cells f1 f2 f3 f4
   obtain ⟨G1,ass,hd,rfl,hl⟩:=Qeu hh hp hs
   have hvl:(a.eval x).cells.size=sz:=by have:=hd.1;have e2:(a.eval x).cells.toList.length=(a.eval x).cells.size:=Array.length_toList;omega
   have hle:j * sz+sz≤cur.size:=by
    rw [hF.size]
    have:(j+1) * sz≤xs.length * sz:=Nat.mul_le_mul_right _ hj
    rw [Nat.add_mul] at this;omega
   obtain ⟨z1,z2⟩:=QkH (j * sz) (a.eval x).cells cur
   have hF':Qt1 cx w A rs sz (xs.set j vs) ((a.eval x).cells.zipIdx.foldl (fun cs (c,k)=>cs.setIfInBounds (j * sz+k) c) cur) (asx++ass.flatten)
    (fun i c=>if i=j then G1 c else G i c) (fun i c=>if i=j then ass.getD c [] else al i c):=by
    have hin:∀ {c r}, r∈ass.getD c []→∃ l,ass[c]? = some l∧r∈l:=fun {c r} hr=>by
     rw [List.getD_eq_getElem?_getD] at hr
     cases e:ass[c]? with
     | none=>simp [e] at hr
     | some l=>exact ⟨l,rfl,by simpa [e] using hr⟩
    refine ⟨by rw [z1,hF.size];simp,fun i e he => ?_,fun i c cell hc => ?_,fun i c r hr => ?_,fun hn i c i' c' r hr hr' => ?_⟩
    ·by_cases e1:j=i
     ·subst e1;rw [List.getElem?_set_self hj] at he;injection he with he;subst he;omega
     ·rw [List.getElem?_set_ne e1] at he;exact hF.len i e he
    ·by_cases e1:j=i
     ·subst e1
      obtain ⟨e,he,hc⟩:=Qas hc
      rw [List.getElem?_set_self hj] at he;injection he with he;subst he
      obtain ⟨v,l,h1,h2,h3⟩:=hd.2 c cell hc
      have hcl:c<vs.length:=(List.getElem?_eq_some_iff.1 hc).1
      refine ⟨v, ?_, ?_⟩
      ·rw [z2,if_pos ⟨by omega,by omega,by omega⟩]
       rw [Array.getElem?_toList] at h1
       rw [←h1];congr 1;omega
      ·simp only [if_true,List.getD_eq_getElem?_getD,h2,Option.getD_some];exact h3
     ·have hc':QW xs i c=some cell:=by
       obtain ⟨e,he,hc⟩:=Qas hc
       rw [List.getElem?_set_ne e1] at he;exact QbN he hc
      obtain ⟨v,h1,h2⟩:=hF.cell i c cell hc'
      obtain ⟨_,hcs⟩:=Qhw hF.len hc'
      refine ⟨v, ?_, ?_⟩
      ·rw [z2,if_neg]
       ·exact h1
       ·intro ⟨g1,g2,_⟩
        exact Qrj (i:=i) (i':=j) hcs (by omega:0<sz) (Ne.symm e1) ⟨g1,by omega⟩
      ·rw [if_neg (Ne.symm e1),if_neg (Ne.symm e1)];exact h2
    ·by_cases e1:i=j
     ·simp only [if_pos e1] at hr
      obtain ⟨l,h1,h2⟩:=hin hr
      exact List.mem_append_right _ (List.mem_flatten.2 ⟨l,List.mem_of_getElem? h1,h2⟩)
     ·simp only [if_neg e1] at hr
      exact List.mem_append_left _ (hF.mem i c r hr)
    ·rw [List.nodup_append] at hn
     obtain ⟨n1,n2,n3⟩:=hn
     have inF:∀ {c r}, r∈ass.getD c []→r∈ass.flatten:=fun hr=>by
      obtain ⟨l,h1,h2⟩:=hin hr
      exact List.mem_flatten.2 ⟨l,List.mem_of_getElem? h1,h2⟩
     by_cases e1:i=j <;> by_cases e2:i'=j <;> simp only [e1,e2,if_true,if_false] at hr hr'
     ·obtain ⟨l,h1,h2⟩:=hin hr
      obtain ⟨l',h1',h2'⟩:=hin hr'
      exact ⟨e1.trans e2.symm,QdY n2 h1 h1' h2 h2'⟩
     ·exact absurd rfl (n3 r (hF.mem _ _ _ hr') r (inF hr))
     ·exact absurd rfl (n3 r (hF.mem _ _ _ hr) r (inF hr'))
     ·exact hF.apart n1 _ _ _ _ _ hr hr'
   obtain ⟨cur',G',al',h1,h2,h3⟩:=Qnr h hh hk hF' hg
   refine ⟨cur',G',al', ?_,h2,by rw [h3];simp⟩
   simp only [List.map_cons,Instr.fill]
   rw [if_neg]
   ·exact h1
   ·simp [hvl];omega
  ·cases hg
 | [],_::_,hk,_,_,_,_,_,_,_,_,_=>by simp [QfR] at hk
 | _::_,[],hk,_,_,_,_,_,_,_,_,_=>by simp [QfR] at hk
theorem Qep {zero:List AV} {z:Array Value} (hz:Qeq zero z.toList=true) (n:Nat) (hpos:0<zero.length) :
 Qt1 cx w A rs zero.length (List.replicate n zero) ((Array.range (n * zero.length)).map (z[· % z.size]!)) [] (fun _ _ _=>none) (fun _ _=>[]):=by
 obtain ⟨h1,h2⟩:=Qde hz
 have hzs:z.size=zero.length:=by simpa using h1.symm
 refine ⟨by simp,fun i el he => ?_,fun i c cell hc => ?_,fun i c r hr=>by simp at hr,fun _ i c i' c' r hr=>by simp at hr⟩
 ·rw [List.getElem?_replicate] at he;split at he
  ·injection he with he;rw [←he]
  ·cases he
 ·obtain ⟨el,he,hc⟩:=Qas hc
  rw [List.getElem?_replicate] at he
  split at he
  ·rename_i hi
   injection he with he;subst he
   obtain ⟨v,h3,h4⟩:=h2 c cell hc
   have hcl:c<zero.length:=(List.getElem?_eq_some_iff.1 hc).1
   refine ⟨v, ?_,QfC h4⟩
   have hlt:i * zero.length+c<n * zero.length:=by
    have:(i+1) * zero.length≤n * zero.length:=Nat.mul_le_mul_right _ hi
    rw [Nat.add_mul] at this;omega
   have hm:(i * zero.length+c) % z.size=c:=by rw [hzs,Nat.mul_comm,Nat.mul_add_mod,Nat.mod_eq_of_lt hcl]
   rw [Array.getElem?_map,Array.getElem?_range,if_pos hlt]
   simp only [Option.map_some,hm]
   rw [Array.getElem?_toList] at h3
   rw [getElem!_def,h3]
  ·cases he
theorem Qid (hh:HR cx w A rs) (hf:Fr cx w0 w) (hi:∀ r R,rs r=some R→D r) {sz e id:Nat} {xs:Els} {cur:Array Value} {asx:List Nat} {G al} (hF:Qt1 cx w A rs sz xs cur asx G al) (hnd:asx.Nodup)
 (hid:¬D id) (hD:∀ r,D r→D' r) (hid':D' id) :
 ∃ A',Qcc cx w0 D D' A rs w A' (up' (kill rs asx) id (some ⟨true,sz,0,xs⟩)) { w with heap:=w.heap.push (.cells cur e) } ∧
  VR D' A' (up' (kill rs asx) id (some ⟨true,sz,0,xs⟩)) { w with heap:=w.heap.push (.cells cur e) } (.slc id [] 0 sz 0 xs.length) (.slice (some ⟨w.heap.size,0,none⟩) xs.length xs.length):=by
 refine ⟨_,Qfa hh hf hi hid hD hid' (G:=G) (al:=al) hF.size hF.len (fun i c cell hc => ?_) (hF.apart hnd),(QfP hid' (Q6 _ _ _) (by rw [Q6];rfl) rfl (Nat.le_refl _) (Nat.le_refl _) ⟨cur,e,(0,0),Qct w _,by simp [hF.size]⟩).vr⟩
 obtain ⟨v,h1,h2⟩:=hF.cell i c cell hc
 exact ⟨v,h1,h2,hF.mem i c⟩
theorem QsA (h:TR D A rs w tm a) (hh:HR cx w A rs) (hf:Fr cx w0 w) (hi:∀ r R,rs r=some R→D r) {t e sz len id:Nat} {zero:List AV} {ps:Array (Nat×Operand)} {qs:List (Nat×X)} (ho:o.op = .buildSlice t len ps)
 (ht:P.underlying t=some (.slice e)) (hz:QdD P e zero=true) (hsz:zero.length=sz) (hpos:0<sz) (hsm:len * sz≤16777216) (hk:QfR ps.toList qs=true)
 {xs:Els} {asx:List Nat} (hg:evI.go tm rs qs (List.replicate len zero) []=some (xs,asx)) (hnd:asx.Nodup) (hid:¬D id) (hD:∀ r,D r→D' r) (hid':D' id) :
 ∃ v w' A',Qa8 P a o w v w'∧Qcc cx w0 D D' A rs w A' (up' (kill rs asx) id (some ⟨true,sz,0,xs⟩)) w'∧VR D' A' (up' (kill rs asx) id (some ⟨true,sz,0,xs⟩)) w' (.slc id [] 0 sz 0 len) v:=by
 subst hsz
 obtain ⟨i,z,h1,h2,h3,h4,h5⟩:=Qdd hz
 obtain ⟨cur,G,al,h6,h7,h8⟩:=Qnr h hh hk (Qep (cx:=cx) (w:=w) (A:=A) (rs:=rs) h4 len hpos) hg
 obtain ⟨A',h9,h10⟩:=Qid (e:=e) hh hf hi h7 hnd hid hD hid'
 have hl:xs.length=len:=by rw [h8];simp
 rw [hl] at h10
 refine ⟨_,_,A', ?_,h9,h10⟩
 have hmap:(ps.map fun (i,x)=>(i,a.eval x)).toList=ps.toList.map fun (i,x)=>(i,a.eval x):=by simp
 simp only [Qa8,execOp,ho,Instr.buildSlice,Sem.run_bind,QV ht,Result.andThen_ok,(h5 _).2,Sem.run_ite]
 rw [if_neg (by omega)]
 by_cases e0:len * zero.length=0
 ·have ez:(Array.range (len * zero.length)).map (fun x=>(#[]:Array Value)[x % (#[]:Array Value).size]!)=(Array.range (len * zero.length)).map (z.cells[· % z.cells.size]!):=by rw [e0];simp
  rw [if_pos e0]
  simp only [Sem.run_pure,Result.andThen_ok,hmap,ez,h6,newRow,run_newObj,Sem.run_bind]
 ·rw [if_neg e0]
  simp only [Sem.run_bind,(h5 _).1,Sem.run_pure,Result.andThen_ok,hmap,h6,newRow,run_newObj]
theorem Qlt {n:Nat} (h:n≤140737488355328):IntKind.i64.wrap (n:Int)=n:=by
 unfold IntKind.wrap
 simp only [IntKind.bits,IntKind.signed,Bool.true_and,ge_iff_le,decide_eq_true_eq]
 have:((n:Int) % 2 ^ 64)=n:=Int.emod_eq_of_lt (by omega) (by omega)
 rw [this,if_neg (by omega)]
theorem Qsz (h:TR D A rs w tm a) (hh:HR cx w A rs) (hf:Fr cx w0 w) (hi:∀ r R,rs r=some R→D r) {t e sz by' id:Nat} {zero:List AV} {x y:Operand} {x':X} (ho:o.op = .makeSlice t x y)
 (hx:xOk x x'=true) (hy:xOk y x'=true) (ht:P.underlying t=some (.slice e)) (hz:QdD P e zero=true) (hsz:zero.length=sz) (hpos:0<sz) (hby:(P.info? e).map (·.bytes)=some by') (hb0:0<by')
 {k:IntKind} {m:Int} (hm:x'.ev tm = .i k m) (h0:0≤m) (hl:m * by'≤140737488355328) (hid:¬D id) (hD:∀ r,D r→D' r) (hid':D' id) :
 ∃ v w' A',Qa8 P a o w v w'∧Qcc cx w0 D D' A rs w A' (up' rs id (some ⟨true,sz,0,List.replicate m.toNat zero⟩)) w' ∧
  VR D' A' (up' rs id (some ⟨true,sz,0,List.replicate m.toNat zero⟩)) w' (.slc id [] 0 sz 0 m.toNat) v:=by
 subst hsz
 obtain ⟨i,z,h1,h2,h3,h4,h5⟩:=Qdd hz
 have hk:kill rs []=rs:=by funext r;simp [kill]
 obtain ⟨A',h9,h10⟩:=Qid (cx:=cx) (w0:=w0) (e:=e) hh hf hi (Qep (cx:=cx) (w:=w) (A:=A) (rs:=rs) h4 m.toNat hpos) List.nodup_nil hid hD hid'
 rw [hk] at h9 h10
 simp only [List.length_replicate] at h10
 refine ⟨_,_,A', ?_,h9,h10⟩
 have e1:=h.ev hx
 have e2:=h.ev hy
 rw [hm] at e1 e2
 have hbs:i.bytes=by':=by simpa [h1] using hby
 obtain ⟨n,rfl⟩:=Int.eq_ofNat_of_zero_le h0
 have hn:n * by'≤140737488355328:=Int.ofNat_le.1 (by rw [Int.natCast_mul];exact hl)
 have hn':n≤140737488355328:=Nat.le_trans (Nat.le_mul_of_pos_right _ hb0) hn
 have hbig:¬((by':Int) * (n:Int) > 2 ^ 48):=by
  have:((n * by':Nat):Int)≤(140737488355328:Nat):=Int.ofNat_le.2 hn
  rw [Int.mul_comm]
  have h48:(2:Int) ^ 48=281474976710656:=rfl
  rw [h48]
  rw [Int.natCast_mul] at this
  omega
 have hneg:¬((n:Int)<0):=by omega
 simp only [Qa8,execOp,ho,Instr.makeSlice,Sem.run_bind,QV ht,Result.andThen_ok,e1.int,e2.int,asInt,asIntOf,Sem.run_pure,Qbf h1,hbs,Qlt hn',hbig,hneg,
  decide_false,Bool.or_false,Int.lt_irrefl,gt_iff_lt,Bool.false_eq_true,if_false,run_askRoom,(h5 _).2,Int.toNat_natCast,Sem.run_ite,newRow,run_newObj]
 by_cases e0:n * zero.length=0
 ·rw [if_pos e0]
  have ez:(Array.range (n * zero.length)).map (fun x=>(#[]:Array Value)[x % (#[]:Array Value).size]!)=(Array.range (n * zero.length)).map (z.cells[· % z.cells.size]!):=by rw [e0];simp
  simp only [Sem.run_pure,Result.andThen_ok,ez,newRow,run_newObj,Sem.run_bind]
 ·rw [if_neg e0]
  simp only [Sem.run_bind,(h5 _).1,Sem.run_pure,Result.andThen_ok,newRow,run_newObj]
end
end Go.Proofs.YtallpjhkmcgpoaaGreat.V
end
section
namespace Go.Proofs.YtallpjhkmcgpoaaGreat.V
open Go
def QcO:Gh→QaO→Gh→Gh
 | _,[],B'=>B'
 | B,(a,b)::q,B'=>fun ρ=>match ρ with
  | []=>B []
  | (a',b')::ρ'=>if a'=a∧b'=b then QcO (B.at' a b) q B' ρ' else B ((a',b')::ρ')
theorem Qj9 (B:Gh) (q:QaO) (B':Gh) (ρ:QaO):QcO B q B' (q++ρ)=B' ρ:=by
 induction q generalizing B with
 | nil=>rfl
 | cons x q ih=>obtain ⟨a,b⟩:=x;simp only [List.cons_append,QcO,and_self,if_true];exact ih _
theorem Qib {B B':Gh} {q:QaO} (h:B' []=B q):QcO B q B' []=B []:=by
 cases q with
 | nil=>exact h
 | cons x q=>obtain ⟨a,b⟩:=x;rfl
theorem Qdv {g:Els→Els} (hg:∀ ys,(g ys).length=ys.length):∀ (q:QaO) (xs:Els),(QbK xs q g).length=xs.length
 | [],xs=>hg xs
 | (i,c)::q,xs=>by
  unfold QbK
  split
  ·exact Qcm _ _ _ _
  ·rfl
theorem Qdw {g:Els→Els} {xs:Els} {i c:Nat} {q:QaO} {p bo:Bool} {sz:Nat} {ys:Els} (h:QW xs i c=some (.deep p bo sz ys)) (j k:Nat) :
 QW (QbK xs ((i,c)::q) g) j k=if j=i∧k=c then some (.deep p bo sz (QbK ys q g)) else QW xs j k:=by
 obtain ⟨el,h1,h2⟩:=Qas h
 have hc:c<el.length:=(List.getElem?_eq_some_iff.1 h2).1
 simp only [QbK,h]
 rw [QbT h1 (by simp;omega)]
 by_cases e:j=i∧k=c
 ·obtain ⟨rfl,rfl⟩:=e;simp
 ·rw [if_neg e,if_neg]
  intro ⟨h3,h4,h5⟩
  simp at h5
  exact e ⟨h3,by omega⟩
theorem Qmx {g:Els→Els} {xs:Els} {i c:Nat} {q:QaO} {p bo:Bool} {sz:Nat} {ys:Els} (h:QW xs i c=some (.deep p bo sz ys)) {n:Nat} (hn:∀ (j:Nat) el,xs[j]? = some el→el.length=n) :
 ∀ (j:Nat) el,(QbK xs ((i,c)::q) g)[j]? = some el→el.length=n:=by
 intro j el he
 obtain ⟨e0,h1,h2⟩:=Qas h
 have hc:c<e0.length:=(List.getElem?_eq_some_iff.1 h2).1
 simp only [QbK,h] at he
 rw [Qev h1] at he
 split at he
 ·injection he with he;subst he
  rw [Qb9 (by simp;omega)];exact hn _ _ h1
 ·exact hn _ _ he
theorem QfZ {g:Els→Els} (hg:∀ ys,(g ys).length=ys.length) {B':Gh} : ∀ {q:QaO} {s:Nat} {ro:Bool} {B:Gh} {xs:Els} {s1:Nat} {ro1:Bool} {ys:Els}, QaB s ro xs q=some (s1,ro1,ys)→B' []=B q →
 ∀ {ρ:QaO} {s':Nat} {ro':Bool} {ys':Els}, QaB s ro (QbK xs q g) ρ=some (s',ro',ys') →
 (∃ ρ',ρ=q++ρ'∧QaB s1 ro1 (g ys) ρ'=some (s',ro',ys'))∨((∀ ρ',ρ≠q++ρ')∧QcO B q B' ρ=B ρ∧∃ zs,QaB s ro xs ρ=some (s',ro',zs)∧zs.length=ys'.length)
 | [],s,ro,B,xs,s1,ro1,ys,hq,hB,ρ,s',ro',ys',h=>by
  simp only [QaB,Option.some.injEq,Prod.mk.injEq] at hq
  obtain ⟨rfl,rfl,rfl⟩:=hq
  exact .inl ⟨ρ,rfl,h⟩
 | (i,c)::q,s,ro,B,xs,s1,ro1,ys,hq,hB,ρ,s',ro',ys',h=>by
  obtain ⟨p,bo,sz,zs,hc,hq'⟩:=QaZ hq
  cases ρ with
  | nil =>
   simp only [QaB,Option.some.injEq,Prod.mk.injEq] at h
   obtain ⟨rfl,rfl,rfl⟩:=h
   exact .inr ⟨fun ρ' e=>by simp at e,rfl,xs,rfl,(Qdv hg _ _).symm⟩
  | cons x ρ =>
   obtain ⟨j,k⟩:=x
   obtain ⟨p',bo',sz',zs',hc',h'⟩:=QaZ h
   rw [Qdw hc] at hc'
   by_cases e:j=i∧k=c
   ·rw [if_pos e] at hc'
    injection hc' with hc';injection hc' with e1 e2 e3 e4;subst e1;subst e2;subst e3;subst e4
    obtain ⟨rfl,rfl⟩:=e
    rcases QfZ hg (B:=B.at' j k) hq' hB h' with ⟨ρ',rfl,h1⟩|⟨h1,h2,ws,h3,h4⟩
    ·exact .inl ⟨ρ',rfl,h1⟩
    ·refine .inr ⟨fun ρ' e=>h1 ρ' (by simpa using e),by simp only [QcO,and_self,if_true];exact h2,ws,by simp only [QaB,hc];exact h3,h4⟩
   ·rw [if_neg e] at hc'
    refine .inr ⟨fun ρ' e'=>e (by simp only [List.cons_append,List.cons.injEq,Prod.mk.injEq] at e';exact e'.1),by simp only [QcO,if_neg e],ys',by simp only [QaB,hc'];exact h',rfl⟩
theorem Qdm {g:Els→Els} (hg:∀ ys,(g ys).length=ys.length) {B B':Gh} {q:QaO} {s:Nat} {ro:Bool} {xs:Els} {s1:Nat} {ro1:Bool} {ys:Els} (hq:QaB s ro xs q=some (s1,ro1,ys)) (hB:B' []=B q)
 {f:Bool} {ρ:QaO} {b:Nat} (h:V.Key s ro (QcO B q B') (QbK xs q g) f ρ b):(∃ ρ',ρ=q++ρ'∧V.Key s1 ro1 B' (g ys) f ρ' b)∨((∀ ρ',ρ≠q++ρ')∧V.Key s ro B xs f ρ b):=by
 obtain ⟨s',zs,o,h1,h2⟩:=h
 rcases QfZ hg hq hB h1 with ⟨ρ',rfl,h3⟩|⟨h3,h4,ws,h5,h6⟩
 ·rw [Qj9] at h2
  exact .inl ⟨ρ',rfl,s',zs,o,h3,h2⟩
 ·rw [h4] at h2
  exact .inr ⟨h3,s',ws,o,h5,h2⟩
theorem QgH {w w':World} (hbig:∀ b n,Big w b n→Big w' b n) {g:Els→Els} (hg:∀ ys,(g ys).length=ys.length) {B':Gh} : ∀ {q:QaO} {s:Nat} {ro:Bool} {B:Gh} {xs:Els} {s1:Nat} {ro1:Bool} {ys:Els},
 Qbg w ro s B xs→QaB s ro xs q=some (s1,ro1,ys)→Qbg w' ro1 s1 B' (g ys)→B' []=B q →
 (∀ ρ f b,V.Key s ro B xs f ρ b→(∀ ρ',ρ≠q++ρ')→w'.heap[b]? = w.heap[b]?)→Qbg w' ro s (QcO B q B') (QbK xs q g)
 | [],s,ro,B,xs,s1,ro1,ys,ht,hq,h',hB,hk=>by
  simp only [QaB,Option.some.injEq,Prod.mk.injEq] at hq
  obtain ⟨rfl,rfl,rfl⟩:=hq
  exact h'
 | (i,c)::q,s,ro,B,xs,s1,ro1,ys,ht,hq,h',hB,hk=>by
  obtain ⟨p,bo,sz,zs,hc,hq'⟩:=QaZ hq
  have ih:=QgH hbig hg (ht.sub hc) hq' h' (B:=B.at' i c) hB fun ρ f b k hn=>hk ((i,c)::ρ) f b (by
   obtain ⟨s',ws,o,h1,h2⟩:=k
   exact ⟨s',ws,o,by simp only [QaB,hc];exact h1,h2⟩) fun ρ' e=>hn ρ' (by simpa using e)
  refine Qbg.mk' ⟨Qmx hc ht.top.1, ?_⟩ fun j k p' bo' sz' zs' hc' => ?_
  ·have h2:=ht.top.2
   have e0:QcO B ((i,c)::q) B' []=B []:=rfl
   rw [e0]
   cases e:B [] with
   | none =>
    rw [e] at h2
    simp only at h2 ⊢
    rw [h2] at hc
    simp [QW] at hc
   | some x =>
    obtain ⟨b,o⟩:=x
    rw [e] at h2
    obtain ⟨cur,⟨ty,fr,hb,hf⟩,hcells⟩:=h2
    refine ⟨cur,⟨ty,fr, ?_,hf⟩,fun j k cell hcell => ?_⟩
    ·rw [hk [] ro b ⟨s,xs,o,rfl,e⟩ (fun ρ' e=>by simp at e)];exact hb
    ·rw [Qdw hc] at hcell
     by_cases e1:j=i∧k=c
     ·rw [if_pos e1] at hcell
      injection hcell with hcell;subst hcell
      obtain ⟨rfl,rfl⟩:=e1
      obtain ⟨v,h3,h4,h5⟩:=hcells j k _ hc
      refine ⟨v,h3,h4, ?_⟩
      have e2:(QcO B ((j,k)::q) B').at' j k=QcO (B.at' j k) q B':=by funext ρ;simp [Gh.at',QcO]
      rw [e2]
      simp only [QaR,Qdv hg,Qib (B:=B.at' j k) (q:=q) hB] at h5 ⊢
      exact HdR.mono h5 fun b o m _=>hbig b m
     ·rw [if_neg e1] at hcell
      obtain ⟨v,h3,h4,h5⟩:=hcells j k _ hcell
      refine ⟨v,h3,h4, ?_⟩
      have e2:(QcO B ((i,c)::q) B').at' j k=B.at' j k:=by funext ρ;simp [Gh.at',QcO,e1]
      rw [e2];exact h5.mono hbig
  ·rw [Qdw hc] at hc'
   by_cases e1:j=i∧k=c
   ·rw [if_pos e1] at hc'
    injection hc' with hc';injection hc' with a1 a2 a3 a4;subst a1;subst a2;subst a3;subst a4
    obtain ⟨rfl,rfl⟩:=e1
    have e2:(QcO B ((j,k)::q) B').at' j k=QcO (B.at' j k) q B':=by funext ρ;simp [Gh.at',QcO]
    rw [e2];exact ih
   ·rw [if_neg e1] at hc'
    have e2:(QcO B ((i,c)::q) B').at' j k=B.at' j k:=by funext ρ;simp [Gh.at',QcO,e1]
    rw [e2]
    refine (ht.sub hc').mono hbig fun ρ f b kk=>hk ((j,k)::ρ) f b ?_ fun ρ' e=>e1 ?_
    ·obtain ⟨s',ws,o,h1,h2⟩:=kk
     exact ⟨s',ws,o,by simp only [QaB,hc'];exact h1,h2⟩
    ·simp only [List.cons_append,List.cons.injEq,Prod.mk.injEq] at e;exact e.1
theorem One.splice {cur:Array Value} {vals:List Value} {a b:Nat} (h:One cur) (hv:∀ v∈vals,v.oneCell'=true):One (cur.toList.take a++vals++cur.toList.drop b).toArray:=by
 intro v hm
 simp only [List.mem_append] at hm
 rcases hm with (hm|hm)|hm
 ·exact h v (List.mem_of_mem_take hm)
 ·exact hv v hm
 ·exact h v (List.mem_of_mem_drop hm)
theorem QeT {w:World} {b:Nat} {cur cur':Array Value} {ro:Bool} (h:Blk w b ro cur) (hs:cur'.size=cur.size) (ho:One cur→One cur'):Chg (fun x=>x=b) w (w.setRow b cur')∧Blk (w.setRow b cur') b ro cur':=by
 obtain ⟨e,fr,h1,h2⟩:=h
 have h3:=setRow_heap w b cur cur' e fr h1
 refine ⟨⟨by simp,fun k _ hk=>setRow_other w b k cur' hk,fun k n ⟨c,e',fr',h4,h5⟩ => ?_,rfl,rfl,rfl,Nat.le_refl _⟩,e,fr,h3,fun hr=>⟨(h2 hr).1,ho (h2 hr).2⟩⟩
 by_cases hk:k=b
 ·subst hk
  rw [h1] at h4;injection h4 with h4;injection h4 with h4;subst h4
  exact ⟨cur',e,fr,h3,by rw [hs];exact h5⟩
 ·exact ⟨c,e',fr',by rw [setRow_other w b k cur' hk];exact h4,h5⟩
end Go.Proofs.YtallpjhkmcgpoaaGreat.V
end
section
namespace Go.Proofs.YtallpjhkmcgpoaaGreat.V
open Go
section
variable {P:Program} {D D':Nat→Prop} {A:Nat→Gh} {rs:Rs} {w:World} {cx:Cx} {w0:World} {tm:Tm} {a:Act} {o:Oper}
theorem QjE {R:Qaj} {q:QaO} {s:Nat} {ys:Els} (h:QaB R.sz (!R.own) R.xs q=some (s,false,ys)):R.own=true:=by
 cases e:R.own with
 | true=>rfl
 | false =>
  rw [e] at h
  have:=Qcv q h
  cases this
theorem QgI (hh:HR cx w A rs) (hf:Fr cx w0 w) (hi:∀ r R,rs r=some R→D r) {r:Nat} {R:Qaj} (hr:rs r=some R) {q:QaO} {s1:Nat} {ys:Els}
 (hq:QaB R.sz (!R.own) R.xs q=some (s1,false,ys)) {g:Els→Els} (hg:∀ ys,(g ys).length=ys.length) {B':Gh} (hB:B' []=A r q) {w':World} {M:Nat→Prop} (hc:Chg M w w') {asx:List Nat} (hra:r∉asx)
 (hM:∀ b,M b→∃ r1∈r::asx,∃ R1 ρ,rs r1=some R1∧R1.Key (A r1) false ρ b) (hMq:∀ b,M b→∀ ρ f,R.Key (A r) f ρ b→∃ ρ',ρ=q++ρ')
 (ht':Qbg w' false s1 B' (g ys))
 (hk:∀ ρ b,V.Key s1 false B' (g ys) false ρ b→(cx.base≤b∧w.heap.size≤b)∨(∃ ρ',R.Key (A r) false (q++ρ') b)∨∃ r1∈asx,∃ R1 ρ1,rs r1=some R1∧R1.Key (A r1) false ρ1 b)
 (hinj:∀ ρ ρ' b,V.Key s1 false B' (g ys) false ρ b→V.Key s1 false B' (g ys) false ρ' b→ρ=ρ') (hs:∀ ρ b,V.Key s1 false B' (g ys) true ρ b→cx.S b)
 {pv':Nat} (hpv:pv'=R.pv+1∨(pv'=R.pv∧∀ ρ s' ro' ys',QaB s1 false (g ys) ρ=some (s',ro',ys')→∃ zs,QaB s1 false ys ρ=some (s',ro',zs)∧zs.length=ys'.length∧B' ρ=A r (q++ρ)))
 (hD:∀ r,D r→D' r) :
 Qcc cx w0 D D' A rs w (up' A r (QcO (A r) q B')) (up' (kill rs asx) r (some { R with pv:=pv',xs:=QbK R.xs q g })) w':=by
 have hown:=QjE hq
 have e1:up' (kill rs asx) r (some { R with pv:=pv',xs:=QbK R.xs q g })=up' (kill rs (r::asx)) r (some { R with pv:=pv',xs:=QbK R.xs q g }):=by
  funext x
  by_cases e:x=r
  ·subst e;rw [Q6,Q6]
  ·rw [Qaz _ _ e,Qaz _ _ e];simp [kill,e]
 have hq':QaB R.sz (!R.own) R.xs q=some (s1,false,ys):=hq
 have io:∀ ρ ρ' b,V.Key s1 false B' (g ys) false ρ b→R.Key (A r) false ρ' b→(∀ ρ2,ρ'≠q++ρ2)→False:=fun ρ ρ' b k k' hn=>by
  rcases hk ρ b k with h1|⟨ρ2,h1⟩|⟨r1,h1,R1,ρ1,h2,h3⟩
  ·have:=Key.lt (hh.tree r R hr) k';omega
  ·exact hn ρ2 (hh.inj r R ρ' r R _ b hr k' hr h1).2
  ·exact hra ((hh.inj r R ρ' r1 R1 ρ1 b hr k' h2 h3).1▸h1)
 refine ⟨?_,⟨(fun x _ hx=>Qaz _ _ fun e=>by rw [e,hr] at hx;cases hx),fun r2 R2 hDr h => ?_⟩,hc.big,hf.chg hc fun b hm => ?_,fun r2 R2 h => ?_,hc.size,fun b hb hno=>hc.block b hb fun hm => ?_,fun r2 R2 ρ b h k => ?_⟩
 rotate_left 4
 ·obtain ⟨r1,_,R1,ρ1,h2,h3⟩:=hM b hm
  exact hno r1 R1 ρ1 h2 h3
 ·by_cases e:r2=r
  ·subst e
   rw [Q6] at h k
   injection h with h;subst h
   rcases Qdm hg hq' hB k with ⟨ρ',rfl,k'⟩|⟨_,k'⟩
   ·rcases hk ρ' b k' with h1|⟨ρ2,h1⟩|⟨r1,h1,R1,ρ1,h2,h3⟩
    ·exact .inl h1.2
    ·exact .inr ⟨r2,R,_,hr,h1⟩
    ·exact .inr ⟨r1,R1,ρ1,h2,h3⟩
   ·exact .inr ⟨r2,R,ρ,hr,k'⟩
  ·rw [Qaz _ _ e] at h k
   exact .inr ⟨r2,R2,ρ,(Qbn h).2,k⟩
 ·rw [e1]
  refine hh.newroot hc hM ?_ ?_ ?_ ?_
  ·refine QgH hc.big hg (hh.tree r R hr) hq' ht' hB fun ρ f b k hn=>hc.block b (Key.lt (hh.tree r R hr) k) fun hm => ?_
   obtain ⟨ρ',e⟩:=hMq b hm ρ f k
   exact hn ρ' e
  ·intro ρ b k
   rcases Qdm hg hq' hB k with ⟨ρ',rfl,k'⟩|⟨_,k'⟩
   ·rcases hk ρ' b k' with h1|⟨ρ2,h1⟩|⟨r1,h1,R1,ρ1,h2,h3⟩
    ·exact .inl h1
    ·exact .inr ⟨r,by simp,R,_,hr,h1⟩
    ·exact .inr ⟨r1,by simp [h1],R1,ρ1,h2,h3⟩
   ·exact .inr ⟨r,by simp,R,ρ,hr,k'⟩
  ·intro ρ ρ' b k k'
   rcases Qdm hg hq' hB k with ⟨ρ1,rfl,k1⟩|⟨n1,k1⟩ <;> rcases Qdm hg hq' hB k' with ⟨ρ2,rfl,k2⟩|⟨n2,k2⟩
   ·rw [hinj _ _ b k1 k2]
   ·exact (io _ _ b k1 k2 n2).elim
   ·exact (io _ _ b k2 k1 n1).elim
   ·exact (hh.inj r R _ r R _ b hr k1 hr k2).2
  ·intro ρ b k
   rcases Qdm hg hq' hB k with ⟨ρ1,rfl,k1⟩|⟨n1,k1⟩
   ·exact hs _ _ k1
   ·exact hh.sta r R ρ b hr k1
 ·by_cases e:r2=r
  ·subst e
   rw [Q6] at h;injection h with h;subst h
   rw [Q6]
   refine ⟨R,hr, ?_,rfl,rfl,(Qdv hg _ _).symm,Qib hB,fun hp ρ s' ro' ys' ha => ?_⟩
   ·rcases hpv with h|⟨h,_⟩ <;> simp only [h] <;> omega
   ·rcases hpv with h|⟨_,h⟩
    ·simp only [h] at hp;omega
    ·rcases QfZ hg hq' hB ha with ⟨ρ',rfl,h1⟩|⟨_,h1,zs,h2,h3⟩
     ·obtain ⟨zs,h2,h3,h4⟩:=h ρ' s' ro' ys' h1
      exact ⟨zs,by rw [Qb3,hq'];exact h2,h3,by rw [Qj9];exact h4⟩
     ·exact ⟨zs,h2,h3,h1⟩
  ·rw [Qaz _ _ e] at h
   rw [Qaz _ _ e]
   exact ⟨R2,(Qbn h).2,Nat.le_refl _,rfl,rfl,rfl,rfl,fun _ q s ro ys' h'=>⟨ys',h',rfl,rfl⟩⟩
 ·obtain ⟨r1,_,R1,ρ1,h2,h3⟩:=hM b hm
  exact hh.own r1 R1 ρ1 b h2 h3
 ·by_cases e:r2=r
  ·exact e▸hD r (hi r R hr)
  ·rw [Qaz _ _ e] at h
   exact hD r2 (hi r2 R2 (Qbn h).2)
def QcJ (B:Gh) (i c n:Nat) (G:Nat→Gh):Gh:=fun ρ=>match ρ with
 | []=>B []
 | (i',c')::ρ'=>if i'=i∧c≤c'∧c'<c+n then G (c'-c) ρ' else B ((i',c')::ρ')
theorem Qd0 {vs:List AV} (h:Qa7 vs=false) {j:Nat} {p bo:Bool} {s:Nat} {ys:Els} : vs[j]? ≠ some (.deep p bo s ys):=fun e=>by
 have:=List.mem_of_getElem? e
 simp only [Qa7,List.any_eq_false] at h
 exact h _ this rfl
theorem QdW {s i c:Nat} {B:Gh} {G:Nat→Gh} {xs:Els} {el vs:List AV} (he:xs[i]? = some el) (hc:c+vs.length≤el.length) {f:Bool} {ρ:QaO} {b:Nat}
 (h:V.Key s false (QcJ B i c vs.length G) (QaY xs i c vs) f ρ b) :
 (ρ=[]∧f=false∧V.Key s false B xs f [] b)∨(∃ j p bo sz ys ρ',vs[j]? = some (.deep p bo sz ys)∧ρ=(i,c+j)::ρ'∧V.Key sz bo (G j) ys f ρ' b) ∨
  (∃ j k ρ',ρ=(j,k)::ρ'∧¬(j=i∧c≤k∧k<c+vs.length)∧V.Key s false B xs f ρ b):=by
 obtain ⟨s',ys,o,h1,h2⟩:=h
 cases ρ with
 | nil =>
  simp only [QaB,Option.some.injEq,Prod.mk.injEq] at h1
  exact .inl ⟨rfl,h1.2.1.symm,s,xs,o,by simp only [QaB,h1.2.1],h2⟩
 | cons x ρ =>
  obtain ⟨j,k⟩:=x
  obtain ⟨p,bo,sz,zs,h3,h4⟩:=QaZ h1
  rw [QbT he hc] at h3
  by_cases e:j=i∧c≤k∧k<c+vs.length
  ·rw [if_pos e] at h3
   simp only [QcJ,if_pos e] at h2
   refine .inr (.inl ⟨k-c,p,bo,sz,zs,ρ,h3, ?_,s',ys,o,by simpa using h4,h2⟩)
   rw [e.1,show c+(k-c)=k by omega]
  ·rw [if_neg e] at h3
   simp only [QcJ,if_neg e] at h2
   exact .inr (.inr ⟨j,k,ρ,rfl,e,s',ys,o,by simp only [QaB,h3];exact h4,h2⟩)
theorem Qg5 (hh:HR cx w A rs) (hf:Fr cx w0 w) (hi:∀ r R,rs r=some R→D r) {r:Nat} {R:Qaj} (hr:rs r=some R) {q:QaO} {s i c:Nat} {xs:Els} (ha:QaB R.sz (!R.own) R.xs q=some (s,false,xs))
 {b oo:Nat} {cur:Array Value} (hk:A r q=some (b,oo)) (hb:Blk w b false cur) {el:List AV} (he:xs[i]? = some el) {G:Nat→Gh} {vs:List AV} {vals:List Value} {ass:List (List Nat)} (hd:Qzi cx w A rs G vs vals ass)
 (hc:c+vs.length≤el.length) (hra:r∉ass.flatten) (hnd:ass.flatten.Nodup) (hfit:oo+i * s+c+vs.length≤cur.size) (hD:∀ r,D r→D' r) :
 ∃ A',Qcc cx w0 D D' A rs w A' (up' (kill rs ass.flatten) r (some { R with pv:=if Qa7 vs then R.pv+1 else R.pv,xs:=QbK R.xs q fun ys=>QaY ys i c vs }))
  (w.setRow b (cur.toList.take (oo+i * s+c)++vals++cur.toList.drop (oo+i * s+c+vals.length)).toArray):=by
 have hvl:vals.length=vs.length:=hd.1.symm
 have hown:=QjE ha
 have hseg:oo+i * s+c+vals.length≤cur.toList.length:=by rw [hvl,Array.length_toList];exact hfit
 generalize hcur':(cur.toList.take (oo+i * s+c)++vals++cur.toList.drop (oo+i * s+c+vals.length)).toArray=cur'
 have hat:∀ k,cur'[k]? = if oo+i * s+c≤k∧k<oo+i * s+c+vals.length then vals[k-(oo+i * s+c)]? else cur[k]? := fun k=>by
  rw [←hcur',List.getElem?_toArray,QnN hseg]
  split
  ·rfl
  ·rw [Array.getElem?_toList]
 have hsize:cur'.size=cur.size:=by
  rw [←hcur'];simp only [List.size_toArray];rw [Qb9 hseg,Array.length_toList]
 obtain ⟨hch,hb'⟩:=QeT hb hsize (fun h=>by
  rw [←hcur']
  refine h.splice fun v hv => ?_
  obtain ⟨j,hj⟩:=List.getElem?_of_mem hv
  have hlt:=(List.getElem?_eq_some_iff.1 hj).1
  obtain ⟨u,al,h1,_,h2⟩:=hd.2 j _ (List.getElem?_eq_getElem (by rw [hd.1];exact hlt))
  rw [hj] at h1;injection h1 with h1;subst h1
  exact h2.one)
 have hkq:R.Key (A r) false q b:=⟨s,xs,oo,ha,hk⟩
 have hMq:∀ ρ f,R.Key (A r) f ρ b→ρ=q:=fun ρ f k=>by
  cases f with
  | false=>exact (hh.inj r R ρ r R q b hr k hr hkq).2
  | true =>
   have h4:=cx.ok b (hh.sta r R ρ b hr k)
   rcases hh.own r R q b hr hkq with h|h
   ·omega
   ·exact (h4.2 h).elim
 have ht:=hh.arr hr ha
 have htop:=ht.top
 have e0:(A r).from' q []=some (b,oo):=by simpa [Gh.from'] using hk
 have hcells:∀ i c cell,QW xs i c=some cell→∃ v,cur[oo+i * s+c]? = some v∧v.oneCell'=true∧QaR w (((A r).from' q).at' i c) cell v:=by
  have h2:=htop.2
  rw [e0] at h2
  obtain ⟨cur2,⟨ty,fr,h3,_⟩,h4⟩:=h2
  obtain ⟨ty',fr',h5,_⟩:=hb
  rw [h3] at h5;injection h5 with h5;injection h5 with h5;subst h5
  exact h4
 have hel:el.length=s:=htop.1 i el he
 have notb:∀ {r1 R1 ρ1}, r1∈ass.flatten→rs r1=some R1→¬R1.Key (A r1) false ρ1 b:=fun {r1 R1 ρ1} h1 h2 h3=>hra ((hh.inj r1 R1 ρ1 r R q b h2 h3 hr hkq).1▸h1)
 have notS:¬cx.S b:=fun h=>by
  have h4:=cx.ok b h
  rcases hh.own r R q b hr hkq with h|h
  ·omega
  ·exact h4.2 h
 have hkcons:∀ {j k ρ f b'}, V.Key s false ((A r).from' q) xs f ((j,k)::ρ) b'→R.Key (A r) f (q++(j,k)::ρ) b':=fun hk=>hk.sub ha
 have hdown:∀ {j p bo sz ys ρ b'}, vs[j]? = some (.deep p bo sz ys)→V.Key sz bo (G j) ys false ρ b'→∃ l r1 R1 ρ1,ass[j]? = some l∧r1∈l∧r1∈ass.flatten∧rs r1=some R1∧R1.Key (A r1) false ρ1 b':=fun {j p bo sz ys ρ b'} hj hk=>by
  obtain ⟨v,al,h2,h3,h4⟩:=hd.2 j _ hj
  obtain ⟨r1,R1,e1,e2,ρ1,e3⟩:=h4.own p bo sz ys rfl ρ b' hk
  exact ⟨al,r1,R1,ρ1,h3,by rw [e1];simp,List.mem_flatten.2 ⟨al,List.mem_of_getElem? h3,by rw [e1];simp⟩,e2,e3⟩
 refine ⟨_,QgI (B':=QcJ ((A r).from' q) i c vs.length G) (M:=fun x=>x=b) hh hf hi hr ha (fun ys=>Qcm _ _ _ _) ?_ hch hra (fun x hx=>⟨r,by simp,R,q,hr,by rw [hx];exact hkq⟩)
  (fun x hx ρ f k=>⟨[],by rw [hx] at k;rw [hMq ρ f k,List.append_nil]⟩) ?_ ?_ ?_ ?_ ?_ hD⟩
 ·simp [QcJ,Gh.from']
 ·refine Qbg.mk' ⟨fun j e1 hj => ?_, ?_⟩ fun j k p bo sz ys hjk => ?_
  ·rw [Qev he] at hj
   split at hj
   ·injection hj with hj;subst hj;rw [Qb9 (by omega)];exact hel
   ·exact htop.1 j e1 hj
  ·simp only [QcJ,e0]
   refine ⟨cur',hb',fun j k cell hjk => ?_⟩
   rw [QbT he hc] at hjk
   by_cases e1:j=i∧c≤k∧k<c+vs.length
   ·rw [if_pos e1] at hjk
    obtain ⟨v,al,h2,h3,h4⟩:=hd.2 (k-c) cell hjk
    obtain ⟨rfl,e2,e3⟩:=e1
    refine ⟨v, ?_,h4.one, ?_⟩
    ·rw [hat,if_pos ⟨by omega,by omega⟩, ←h2];congr 1;omega
    ·have e4:(QcJ ((A r).from' q) j c vs.length G).at' j k=G (k-c):=by funext ρ;simp [Gh.at',QcJ,e2,e3]
     rw [e4];exact h4.cell.mono hch.big
   ·rw [if_neg e1] at hjk
    obtain ⟨v,h2,h3,h4⟩:=hcells j k cell hjk
    refine ⟨v, ?_,h3, ?_⟩
    ·rw [hat,if_neg]
     ·exact h2
     ·intro ⟨g1,g2⟩
      have hks:k<s:=(Qhw htop.1 hjk).2
      by_cases e2:j=i
      ·subst e2;exact e1 ⟨rfl,by omega,by omega⟩
      ·exact Qrj hks (by omega:0<s) e2 ⟨by omega,by omega⟩
    ·have e4:(QcJ ((A r).from' q) i c vs.length G).at' j k=((A r).from' q).at' j k:=by
      funext ρ
      simp only [Gh.at',QcJ]
      rw [if_neg e1]
     rw [e4];exact h4.mono hch.big
  ·rw [QbT he hc] at hjk
   by_cases e1:j=i∧c≤k∧k<c+vs.length
   ·rw [if_pos e1] at hjk
    obtain ⟨v,al,h2,h3,h4⟩:=hd.2 (k-c) _ hjk
    obtain ⟨rfl,e2,e3⟩:=e1
    have e4:(QcJ ((A r).from' q) j c vs.length G).at' j k=G (k-c):=by funext ρ;simp [Gh.at',QcJ,e2,e3]
    rw [e4]
    simp only [Bool.false_or]
    have htr:=h4.tree p bo sz ys rfl
    refine htr.mono hch.big fun ρ f b' kk=>hch.block b' (Key.lt htr kk) fun hx => ?_
    subst hx
    cases f with
    | false =>
     obtain ⟨l,r1,R1,ρ1,_,_,g1,g2,g3⟩:=hdown hjk kk
     exact notb g1 g2 g3
    | true=>exact notS (h4.sta p bo sz ys rfl ρ _ kk)
   ·rw [if_neg e1] at hjk
    have e4:(QcJ ((A r).from' q) i c vs.length G).at' j k=((A r).from' q).at' j k:=by
     funext ρ
     simp only [Gh.at',QcJ]
     rw [if_neg e1]
    rw [e4]
    have htr:=ht.sub hjk
    refine htr.mono hch.big fun ρ f b' kk=>hch.block b' (Key.lt htr kk) fun hx => ?_
    subst hx
    obtain ⟨s2,zs,o2,g1,g2⟩:=kk
    have:=hMq _ f (hkcons ⟨s2,zs,o2,by simp only [QaB,hjk];exact g1,g2⟩)
    have:=congrArg List.length this
    simp at this
 ·intro ρ b' k
  rcases QdW he hc k with ⟨rfl,_,h1⟩|⟨j,p,bo,sz,ys,ρ',h1,rfl,h2⟩|⟨j,k',ρ',rfl,_,h1⟩
  ·exact .inr (.inl ⟨[],h1.sub ha⟩)
  ·obtain ⟨l,r1,R1,ρ1,_,_,g1,g2,g3⟩:=hdown h1 h2
   exact .inr (.inr ⟨r1,g1,R1,ρ1,g2,g3⟩)
  ·exact .inr (.inl ⟨_,hkcons h1⟩)
 ·intro ρ ρ' b' k k'
  have old:∀ {ρ}, V.Key s false ((A r).from' q) xs false ρ b'→R.Key (A r) false (q++ρ) b':=fun h=>h.sub ha
  have mix:∀ {ρ1 j p bo sz ys ρ2}, R.Key (A r) false ρ1 b'→vs[j]? = some (.deep p bo sz ys)→V.Key sz bo (G j) ys false ρ2 b'→False:=fun k1 hj k2=>by
   obtain ⟨l,r1,R1,ρ1,_,_,g1,g2,g3⟩:=hdown hj k2
   exact hra ((hh.inj _ _ _ _ _ _ b' g2 g3 hr k1).1▸g1)
  have oo2:∀ {ρ1 ρ2}, R.Key (A r) false (q++ρ1) b'→R.Key (A r) false (q++ρ2) b'→ρ1=ρ2:=fun k1 k2=>List.append_cancel_left (hh.inj r R _ r R _ b' hr k1 hr k2).2
  rcases QdW he hc k with ⟨rfl,_,h1⟩|⟨j,p,bo,sz,ys,ρ1,h1,rfl,h2⟩|⟨j,k1,ρ1,rfl,_,h1⟩ <;>
   rcases QdW he hc k' with ⟨rfl,_,h1'⟩|⟨j',p',bo',sz',ys',ρ2,h1',rfl,h2'⟩|⟨j',k2,ρ2,rfl,_,h1'⟩
  ·rfl
  ·exact (mix (old h1) h1' h2').elim
  ·exact oo2 (old h1) (old h1')
  ·exact (mix (old h1') h1 h2).elim
  ·obtain ⟨l,r1,R1,σ1,g1,g2,g3,g4,g5⟩:=hdown h1 h2
   obtain ⟨l',r1',R1',σ1',g1',g2',g3',g4',g5'⟩:=hdown h1' h2'
   obtain ⟨rfl,_⟩:=hh.inj _ _ _ _ _ _ b' g4 g5 g4' g5'
   have:=QdY hnd g1 g1' g2 g2'
   subst this
   rw [h1] at h1';injection h1' with h1';injection h1' with a1 a2 a3 a4;subst a2;subst a3;subst a4
   obtain ⟨v,al,h3,h4,h5⟩:=hd.2 j _ h1
   rw [h5.inj _ _ _ _ rfl _ _ b' h2 h2']
  ·exact (mix (old h1') h1 h2).elim
  ·exact oo2 (old h1) (old h1')
  ·exact (mix (old h1) h1' h2').elim
  ·exact oo2 (old h1) (old h1')
 ·intro ρ b' k
  rcases QdW he hc k with ⟨rfl,h0,h1⟩|⟨j,p,bo,sz,ys,ρ',h1,rfl,h2⟩|⟨j,k',ρ',rfl,_,h1⟩
  ·cases h0
  ·obtain ⟨v,al,h3,h4,h5⟩:=hd.2 j _ h1
   exact h5.sta p bo sz ys rfl ρ' b' h2
  ·exact hh.sta r R _ b' hr (hkcons h1)
 ·cases hdp:Qa7 vs with
  | true=>exact .inl (by simp)
  | false =>
   refine .inr ⟨by simp,fun ρ s' ro' ys' hρ => ?_⟩
   cases ρ with
   | nil =>
    simp only [QaB,Option.some.injEq,Prod.mk.injEq] at hρ
    obtain ⟨rfl,rfl,rfl⟩:=hρ
    exact ⟨xs,rfl,(Qcm _ _ _ _).symm,by simp [QcJ,Gh.from']⟩
   | cons x ρ =>
    obtain ⟨j,k⟩:=x
    obtain ⟨p,bo,sz,zs,h3,h4⟩:=QaZ hρ
    rw [QbT he hc] at h3
    by_cases e1:j=i∧c≤k∧k<c+vs.length
    ·rw [if_pos e1] at h3;exact absurd h3 (Qd0 hdp)
    ·rw [if_neg e1] at h3
     exact ⟨ys',by simp only [QaB,h3];exact h4,rfl,by simp only [QcJ];rw [if_neg e1];rfl⟩
theorem QlO (h:TR D A rs w tm a) (hh:HR cx w A rs) (hf:Fr cx w0 w) (hi:∀ r R,rs r=some R→D r) {t n:Nat} {x y:Operand} {x' y':X} (ho:o.op = .store t x y) (hx:xOk x x'=true) (hy:xOk y y'=true) (hsz:Qen P t n=true) (hpos:0<n)
 {r:Nat} {q:QaO} {pv i c:Nat} (e:x'.ev tm = .ptr r q pv i c) {R:Qaj} {s:Nat} {xs:Els} (hl:QcV rs r q pv=some (R,s,false,xs)) {el:List AV} (he:xs[i]? = some el)
 {vs:List AV} {asx:List Nat} (hs:Qdf rs (y'.ev tm).cells=some (vs,asx)) (hn:vs.length=n) (hc:c+n≤el.length) (hra:r∉asx) (hnd:asx.Nodup) (hD:∀ r,D r→D' r) :
 ∃ w' A',(execOp a.eval o).run P w = .ok .skip w'∧Qcc cx w0 D D' A rs w A' (up' (kill rs asx) r (some { R with
  pv:=if Qa7 vs then R.pv+1 else R.pv,xs:=QbK R.xs q fun ys=>QaY ys i c vs })) w':=by
 have h1:=h.ev hx
 rw [e] at h1
 obtain ⟨hDr,hr,ha,hel,b,oo,cur,hk,hval,hb,hcells⟩:=QqE hh h1.ptr hl he
 obtain ⟨f1,f2,f3,f4⟩:=QeS hs
 have hp:=(h.ev hy).cells f1 f2 f3 f4
 obtain ⟨G,ass,hd,rfl,hlass⟩:=Qeu hh hp hs
 subst hn
 have hvl:(a.eval y).cells.size=vs.length:=by have:=hd.1;have e2:(a.eval y).cells.toList.length=(a.eval y).cells.size:=Array.length_toList;omega
 have hfit:oo+i * s+c+vs.length≤cur.size:=by
  obtain ⟨v,h2,_⟩:=hcells i (c+(vs.length-1)) (el[c+(vs.length-1)]'(by omega)) (QbN he (List.getElem?_eq_getElem (by omega)))
  have:=(Array.getElem?_eq_some_iff.1 h2).1
  omega
 have hone:∀ v∈(a.eval y).cells.toList,v.oneCell'=true:=fun v hv=>by
  obtain ⟨j,hj,e1⟩:=List.getElem_of_mem hv
  have hj':j<vs.length:=by simpa [hvl] using hj
  obtain ⟨v',al,h2,h3,h4⟩:=hd.2 j (vs[j]) (List.getElem?_eq_getElem hj')
  rw [List.getElem?_eq_getElem hj,e1] at h2
  injection h2 with h2;subst h2
  exact h4.one
 obtain ⟨A',hst⟩:=Qg5 (D':=D') hh hf hi hr ha hk hb he hd hc hra hnd hfit hD
 refine ⟨_,A', ?_,hst⟩
 obtain ⟨ty,fr,hb1,hb2⟩:=hb
 rw [(hb2 rfl).1] at hb1
 have hrun:=run_storeCells_at (P:=P) b (oo+i * s+c) ty (a.eval y).cells.toList 0 cur w hb1 (by simp [hvl];omega) hone
 simp only [Nat.add_zero] at hrun
 simp only [execOp,ho,hval,Instr.storeAt,Instr.sureAddr,storeVar,Sem.run_bind,Sem.run_pure,Result.andThen_ok,Qa9 hsz,hvl,ne_eq,not_true_eq_false,if_false,hrun,Sem.run_ite]
end
end Go.Proofs.YtallpjhkmcgpoaaGreat.V
end
section
namespace Go.Proofs.YtallpjhkmcgpoaaGreat.V
open Go
structure Qfs (cx:Cx) (w:World) (A:Nat→Gh) (rs:Rs) (sz:Nat) (zs:Els) (vals:List Value) (asx:List Nat) (G:Nat→Nat→Gh) (K:Nat→Option (Nat×QaO×Nat)):Prop where
 size:vals.length=zs.length * sz
 len:∀ (i:Nat) el,zs[i]? = some el→el.length=sz
 cell:∀ i c cell,QW zs i c=some cell→∃ v,vals[i * sz+c]? = some v∧QaR w (G i c) cell v
 one:∀ v∈vals,v.oneCell'=true
 tree:∀ i c p bo s ys,QW zs i c=some (.deep p bo s ys)→Qbg w bo s (G i c) ys
 own:∀ i c p bo s ys ρ b,QW zs i c=some (.deep p bo s ys)→V.Key s bo (G i c) ys false ρ b→∃ r q k R,K i=some (r,q,k)∧r∈asx∧rs r=some R∧R.Key (A r) false (q++(k,c)::ρ) b
 sta:∀ i c p bo s ys ρ b,QW zs i c=some (.deep p bo s ys)→V.Key s bo (G i c) ys true ρ b→cx.S b
 inj:∀ i i' r q k q' k',K i=some (r,q,k)→K i'=some (r,q',k')→q=q'∧(k=k'→i=i')
section
variable {P:Program} {D D':Nat→Prop} {A:Nat→Gh} {rs:Rs} {w:World} {cx:Cx} {w0:World} {tm:Tm} {a:Act} {o:Oper}
theorem Qfs.nil {sz:Nat} {asx:List Nat} : Qfs cx w A rs sz [] [] asx (fun _ _ _=>none) (fun _=>none) :=
 ⟨by simp,fun i el h=>by simp at h,fun i c cell h=>by simp [QW] at h,fun v h=>by simp at h,fun i c p bo s ys h=>by simp [QW] at h,fun i c p bo s ys ρ b h=>by simp [QW] at h,
  fun i c p bo s ys ρ b h=>by simp [QW] at h,fun i i' r q k q' k' h=>by simp at h⟩
theorem QlM {r:Nat} {q:QaO} {pv sz off len cap:Nat} {ad:Option Addr} (h:PR D A rs w (.slc r q pv sz off len) (.slice ad len cap)) {R:Qaj} (hr:rs r=some R) {s:Nat} {ys:Els} (ha:R.arr q pv=some (s,false,ys)) (hc:0<cap)
 {b oo:Nat} {ro:Bool} {cur:Array Value} (hA:A r q=some (b,oo)) (hb:Blk w b ro cur):oo+(off+cap) * sz=cur.size:=by
 obtain ⟨_,ad',cap',e,_,_,h5⟩:=h
 injection e with e1 e2 e3;subst e3
 obtain ⟨_,_,h7⟩:=(h5 R hr).2 s false ys ha
 rcases h7 with ⟨h7,_⟩|⟨b',oo',h8,_,h10,_⟩
 ·omega
 ·rw [hA] at h8;injection h8 with h8;injection h8 with h8 h9;subst h8;subst h9
  obtain ⟨ty,fr,g1,_⟩:=hb
  obtain ⟨c2,ty2,fr2,g2,_,g3⟩:=h10
  rw [g1] at g2;injection g2 with g2;injection g2 with g2;subst g2
  exact g3 rfl
theorem Qer (hh:HR cx w A rs) {r:Nat} {q:QaO} {pv sz off len:Nat} {v:Value} (h:PR D A rs w (.slc r q pv sz off len) v) {R:Qaj} {s:Nat} {ro:Bool} {ys:Els} (hl:QcV rs r q pv=some (R,s,ro,ys)) :
 s=sz∧off+len≤ys.length∧rs r=some R∧QaB R.sz (!R.own) R.xs q=some (s,ro,ys)∧∃ (vals:List Value) (ad:Option Addr) (cap:Nat),v = .slice ad len cap∧len≤cap∧vals.length=len * sz∧(∀ v∈vals,v.oneCell'=true) ∧
  (∀ (i c:Nat) (cell:AV),i<len→QW ys (off+i) c=some cell→∃ v,vals[i * sz+c]? = some v∧QaR w (((A r).from' q).at' (off+i) c) cell v) ∧
  (∀ w1:World,w1.heap=w.heap→(Builtin.firstCells sz len v).run P w1 = .ok vals.toArray w1) ∧
  ((cap=0∧ys.length≤off)∨∃ b oo cur,A r q=some (b,oo)∧ad=some ⟨b,oo+off * sz,none⟩∧Blk w b ro cur∧oo+(off+cap) * sz≤cur.size∧ys.length≤off+cap ∧
   (∀ i c cell,QW ys i c=some cell→∃ v,cur[oo+i * sz+c]? = some v∧v.oneCell'=true∧QaR w (((A r).from' q).at' i c) cell v)∧∀ (j:Nat) u,vals[j]? = some u→cur[oo+off * sz+j]? = some u):=by
 obtain ⟨h1,h2⟩:=Qb0 hl
 obtain ⟨hD,ad,cap,rfl,h3,h4,h5⟩:=h
 obtain ⟨rfl,h6,h7⟩:=(h5 R h1).2 s ro ys h2
 have ha:=Qaj.arr_of h2
 have ht:=hh.arr h1 ha
 refine ⟨rfl,h6,h1,ha, ?_⟩
 rcases h7 with ⟨rfl,h8⟩|⟨b,oo,h8,h9,h10,h11⟩
 ·obtain rfl:len=0:=by omega
  refine ⟨[],ad,0,rfl,Nat.le_refl _,by simp,fun v hv=>by simp at hv,fun i c cell hi=>by omega,fun w1 _ => ?_, .inl ⟨rfl,h8⟩⟩
  cases ad with
  | none=>exact run_firstCells_none (P:=P) w1 _ _ _ _
  | some ad=>exact run_firstCells_some (P:=P) w1 s 0 ad 0 0 [] (by simp) (fun j v hj=>by simp at hj)
 ·have e0:(A r).from' q []=some (b,oo):=by simpa [Gh.from'] using h8
  have htop:=ht.top
  have h12:=htop.2
  rw [e0] at h12
  obtain ⟨cur,hb,hcells⟩:=h12
  obtain ⟨ty,fr,hb1,hb2⟩:=hb
  have hcur:oo+(off+cap) * s≤cur.size:=by
   obtain ⟨c2,ty2,fr2,g1,g2,_⟩:=h10
   rw [hb1] at g1;injection g1 with g1;injection g1 with g1;subst g1
   exact g2
  have hbnd:∀ j,j<len * s→oo+off * s+j<cur.size:=fun j hj=>by
   have:len * s≤cap * s:=Nat.mul_le_mul_right _ h3
   rw [Nat.add_mul] at hcur
   omega
  let vals:=(List.range (len * s)).map fun j=>(cur[oo+off * s+j]?).getD undef
  have hlen:vals.length=len * s:=by simp [vals]
  have hat:∀ j,j<len * s→vals[j]? = cur[oo+off * s+j]? := fun j hj=>by
   simp only [vals,List.getElem?_map,List.getElem?_range hj,Option.map_some]
   rw [Array.getElem?_eq_getElem (hbnd j hj)];rfl
  have hcell:∀ i c cell,i<len→QW ys (off+i) c=some cell→∃ v,vals[i * s+c]? = some v∧v.oneCell'=true∧QaR w (((A r).from' q).at' (off+i) c) cell v:=fun i c cell hi hc=>by
   obtain ⟨v,g1,g2,g3⟩:=hcells _ _ _ hc
   obtain ⟨_,hcs⟩:=Qhw htop.1 hc
   refine ⟨v, ?_,g2,g3⟩
   have:(i+1) * s≤len * s:=Nat.mul_le_mul_right _ hi
   rw [Nat.add_mul] at this
   rw [hat _ (by omega), ←g1,Nat.add_mul];congr 1;omega
  refine ⟨vals,ad,cap,rfl,h3,hlen,fun v hv => ?_,fun i c cell hi hc => ?_,fun w1 hw1 => ?_, .inr ⟨b,oo,cur,h8,h9,⟨ty,fr,hb1,hb2⟩,hcur,h11,hcells,fun j u hj=>by rw [←hat j (by have:=(List.getElem?_eq_some_iff.1 hj).1;omega)];exact hj⟩⟩
  ·obtain ⟨j,hj,e1⟩:=List.getElem_of_mem hv
   have hj':j<len * s:=by omega
   have hs:0<s:=by rcases Nat.eq_zero_or_pos s with h|h; · simp [h] at hj'
                   ·exact h
   have hi:j / s<len:=Nat.div_lt_of_lt_mul (by rw [Nat.mul_comm];exact hj')
   have hc:j % s<s:=Nat.mod_lt _ hs
   have hel:ys[off+j / s]? = some (ys[off+j / s]'(by omega)):=List.getElem?_eq_getElem (by omega)
   have hl2:=htop.1 _ _ hel
   obtain ⟨v',g1,g2,_⟩:=hcell (j / s) (j % s) _ hi (QbN hel (List.getElem?_eq_getElem (by omega)))
   rw [show j / s * s+j % s=j from by rw [Nat.mul_comm];exact Nat.div_add_mod j s,List.getElem?_eq_getElem hj,e1] at g1
   injection g1 with g1;rw [g1];exact g2
  ·obtain ⟨v,g1,_,g3⟩:=hcell i c cell hi hc
   exact ⟨v,g1,g3⟩
  ·rw [h9]
   refine run_firstCells_some (P:=P) w1 s len _ len cap vals hlen fun j u hj => ?_
   have hj':j<len * s:=by have:=(List.getElem?_eq_some_iff.1 hj).1;omega
   rw [QcR]
   simp only [World.cell?, hw1,hb1]
   rw [hat j hj'] at hj
   simpa using hj
theorem Qel {xs:Els} (h:Q8 xs=false) {i c:Nat} {p bo:Bool} {s:Nat} {ys:Els} : QW xs i c≠some (.deep p bo s ys):=fun e=>by
 obtain ⟨el,h1,h2⟩:=Qas e
 simp only [Q8,List.any_eq_false] at h
 have h3:=h el (List.mem_of_getElem? h1)
 exact Qd0 (by simpa using h3) h2
theorem QkK {xs:Els} {i c:Nat} {x:AV} (h:QW (xs.map (·.map QeP)) i c=some x):∃ y,QW xs i c=some y∧x=QeP y:=by
 obtain ⟨el,h1,h2⟩:=Qas h
 rw [List.getElem?_map] at h1
 cases e:xs[i]? with
 | none=>simp [e] at h1
 | some el' =>
  simp only [e,Option.map_some,Option.some.injEq] at h1
  subst h1
  rw [List.getElem?_map] at h2
  cases e':el'[c]? with
  | none=>simp [e'] at h2
  | some y=>simp only [e',Option.map_some,Option.some.injEq] at h2;exact ⟨y,QbN e e',h2.symm⟩
theorem Qup (hh:HR cx w A rs) {sz:Nat} (hsz:0<sz) {y:AV} {v:Value} (h:VR D A rs w y v) {ys:Els} {asx:List Nat} (hs:Qgi rs sz y=some (ys,asx)) :
 ∃ (vals:List Value) (G:Nat→Nat→Gh) (K:Nat→Option (Nat×QaO×Nat)),Qfs cx w A rs sz ys vals asx G K∧(Builtin.lenOf v).run P w = .ok ys.length w∧(∀ w1:World,w1.heap=w.heap→(Builtin.firstCells sz ys.length v).run P w1 = .ok vals.toArray w1) ∧
  (∀ i r q k,K i=some (r,q,k)→r∈asx)∧(∀ r∈asx,∃ R,rs r=some R)∧((∃ x,v = .string x)∨∃ a n c,v = .slice a n c):=by
 unfold Qgi at hs
 split at hs
 ·injection hs with hs;injection hs with h1 h2;subst h1;subst h2
  cases h.nl
  exact ⟨[],_,_,Qfs.nil,by simp [Builtin.lenOf],fun w1 _=>run_firstCells_none (P:=P) w1 _ _ _ _,(fun i r q k e=>by cases e),(fun r h=>by simp at h), .inr ⟨_,_,_,rfl⟩⟩
 ·rename_i x
  split at hs
  ·rename_i h1
   injection hs with hs;injection hs with h2 h3;subst h2;subst h3;subst h1
   cases h.str
   have hl:(x.toList.map fun u=>[AV.i .u8 u.toNat]).length=x.size:=by simp [ByteArray.toList_eq]
   have hcs:∀ {i c cell}, QW (x.toList.map fun u=>[AV.i .u8 u.toNat]) i c=some cell→∃ u,x.toList[i]? = some u∧c=0∧cell = .i .u8 (u.toNat:Nat):=fun {i c cell} hc=>by
    obtain ⟨el,g1,g2⟩:=Qas hc
    rw [List.getElem?_map] at g1
    cases e:x.toList[i]? with
    | none=>simp [e] at g1
    | some u =>
     simp only [e,Option.map_some,Option.some.injEq] at g1;subst g1
     cases c with
     | zero=>simp only [List.getElem?_cons_zero,Option.some.injEq] at g2;exact ⟨u,rfl,rfl,g2.symm⟩
     | succ c=>simp at g2
   refine ⟨Lib.strCells x,fun _ _ _=>none,fun _=>none,⟨by rw [hl,Lib.strCells_length];simp,fun i el he => ?_,fun i c cell hc => ?_,Lib.strCells_oneCell x,fun i c p bo s' ys hc => ?_,fun i c p bo s' ys ρ b hc => ?_,fun i c p bo s' ys ρ b hc => ?_,(fun i i' r q k q' k' e=>by cases e)⟩,
    by rw [hl];simp [Builtin.lenOf],(fun w1 _=>by rw [hl];exact Lib.run_firstCells_string (P:=P) w1 1 x),(fun i r q k e=>by cases e),(fun r h=>by simp at h), .inl ⟨x,rfl⟩⟩
   ·rw [List.getElem?_map] at he
    cases e:x.toList[i]? with
    | none=>simp [e] at he
    | some u=>simp only [e,Option.map_some,Option.some.injEq] at he;rw [←he];rfl
   ·obtain ⟨u,g1,rfl,rfl⟩:=hcs hc
    refine ⟨.int .u8 u.toNat, ?_,rfl⟩
    rw [ByteArray.toList_eq] at g1
    simp only [Lib.strCells,Nat.mul_one,Nat.add_zero,List.getElem?_map,g1,Option.map_some]
   ·obtain ⟨u,_,_,g⟩:=hcs hc;cases g
   ·obtain ⟨u,_,_,g⟩:=hcs hc;cases g
   ·obtain ⟨u,_,_,g⟩:=hcs hc;cases g
  ·cases hs
 ·rename_i r q pv sz' off len
  simp only [Option.bind_eq_some_iff] at hs
  obtain ⟨⟨R,s,ro,zs⟩,hl,hs⟩:=hs
  split at hs
  ·rename_i e1
   subst e1
   obtain ⟨rfl,h6,hr,ha,vals,ad,cap,rfl,h7,h8,h9,h10,h11,h12⟩:=Qer (P:=P) hh h.slc hl
   have ht:=hh.arr hr ha
   have hlen1:(Builtin.lenOf (.slice ad len cap)).run P w = .ok len w:=by simp [Builtin.lenOf]
   have hel:∀ (i:Nat) el,(wnd zs off len)[i]? = some el→el.length=s:=fun i el he=>by
    rw [Qgp h6] at he
    split at he
    ·exact ht.top.1 _ _ he
    ·cases he
   have key_sub:∀ {i c p bo s' ys ρ b f}, QW zs (off+i) c=some (.deep p bo s' ys)→V.Key s' (ro || bo) (((A r).from' q).at' (off+i) c) ys f ρ b→R.Key (A r) f (q++(off+i,c)::ρ) b:=fun hc hk=>by
    obtain ⟨s2,zs2,o2,g1,g2⟩:=hk
    exact V.Key.sub ha ⟨s2,zs2,o2,by simp only [QaB,hc];exact g1,g2⟩
   split at hs
   ·rename_i hdp
    cases ro with
    | true =>
     simp only [if_true] at hs
     injection hs with hs;injection hs with e2 e3;subst e2;subst e3
     have hcl:∀ {i c x}, QW ((wnd zs off len).map (·.map QeP)) i c=some x→∃ y,i<len∧QW zs (off+i) c=some y∧x=QeP y:=fun hc=>by
      obtain ⟨y,g1,g2⟩:=QkK hc
      exact ⟨y,(Qbp h6 g1).1,(Qbp h6 g1).2,g2⟩
     have hdeep:∀ {i c p bo s' ys}, QW ((wnd zs off len).map (·.map QeP)) i c=some (.deep p bo s' ys)→bo=true∧∃ bo',QW zs (off+i) c=some (.deep p bo' s' ys):=fun hc=>by
      obtain ⟨y,_,g1,g2⟩:=hcl hc
      cases y <;> simp only [QeP] at g2 <;> first|(cases g2;done)|(injection g2 with a1 a2 a3 a4;subst a1;subst a2;subst a3;subst a4;exact ⟨rfl,_,g1⟩)
     have hl0:((wnd zs off len).map (·.map QeP)).length=len:=by rw [List.length_map,QaS h6]
     refine ⟨vals,fun i c=>((A r).from' q).at' (off+i) c,fun _=>none,⟨by rw [hl0,h8],fun i el he => ?_,fun i c cell hc => ?_,h9,fun i c p bo s' ys hc => ?_,fun i c p bo s' ys ρ b hc hk => ?_,fun i c p bo s' ys ρ b hc hk => ?_,(fun i i' r q k q' k' e=>by cases e)⟩,
      by rw [hl0];exact hlen1,by rw [hl0];exact h11,(fun i r q k e=>by cases e),(fun r h=>by simp at h), .inr ⟨_,_,_,rfl⟩⟩
     ·rw [List.getElem?_map] at he
      cases e:(wnd zs off len)[i]? with
      | none=>simp [e] at he
      | some el'=>simp only [e,Option.map_some,Option.some.injEq] at he;rw [←he,List.length_map];exact hel i el' e
     ·obtain ⟨y,g0,g1,rfl⟩:=hcl hc
      obtain ⟨v,g2,g3⟩:=h10 i c y g0 g1
      refine ⟨v,g2, ?_⟩
      cases y <;> first|exact g3|(simp only [QeP,QaR] at g3 ⊢; exact g3.lax)
     ·obtain ⟨rfl,bo',g1⟩:=hdeep hc
      have:=ht.sub g1
      simpa using this
     ·obtain ⟨rfl,bo',g1⟩:=hdeep hc
      obtain ⟨s2,zs2,o2,g2,g3⟩:=hk
      have:=Qcv _ g2;cases this
     ·obtain ⟨rfl,bo',g1⟩:=hdeep hc
      exact hh.sta r R _ b hr (key_sub g1 (by simpa using hk))
    | false =>
     simp only [Bool.false_eq_true,if_false] at hs
     cases q with
     | cons x q=>cases hs
     | nil =>
      simp only at hs
      injection hs with hs;injection hs with e2 e3;subst e2;subst e3
      refine ⟨vals,fun i c=>((A r).from' []).at' (off+i) c,fun i=>some (r,[],off+i),⟨by rw [QaS h6,h8],hel,fun i c cell hc=>h10 i c cell (Qbp h6 hc).1 (Qbp h6 hc).2,h9,fun i c p bo s' ys hc => ?_,fun i c p bo s' ys ρ b hc hk => ?_,fun i c p bo s' ys ρ b hc hk => ?_,fun i i' r1 q1 k q' k' e e' => ?_⟩,
       by rw [QaS h6];exact hlen1,by rw [QaS h6];exact h11,fun i r1 q1 k e => ?_,(fun r1 h1=>by simp only [List.mem_singleton] at h1;subst h1;exact ⟨R,hr⟩), .inr ⟨_,_,_,rfl⟩⟩
      ·have:=ht.sub (Qbp h6 hc).2
       simpa using this
      ·exact ⟨r,[],off+i,R,rfl,by simp,hr,key_sub (Qbp h6 hc).2 (by simpa using hk)⟩
      ·exact hh.sta r R _ b hr (key_sub (Qbp h6 hc).2 (by simpa using hk))
      ·injection e with e;injection e with a1 a2;injection a2 with a2 a3
       injection e' with e';injection e' with b1 b2;injection b2 with b2 b3
       exact ⟨a2.symm.trans b2,fun hk=>by omega⟩
      ·injection e with e;injection e with a1 a2;simp [a1]
   ·rename_i hdp
    have hdp':Q8 (wnd zs off len)=false:=by simpa using hdp
    injection hs with hs;injection hs with e2 e3;subst e2;subst e3
    exact ⟨vals,fun i c=>((A r).from' q).at' (off+i) c,fun _=>none,⟨by rw [QaS h6,h8],hel,fun i c cell hc=>h10 i c cell (Qbp h6 hc).1 (Qbp h6 hc).2,h9,fun i c p bo s' ys hc=>absurd hc (Qel hdp'),fun i c p bo s' ys ρ b hc=>absurd hc (Qel hdp'),
     fun i c p bo s' ys ρ b hc=>absurd hc (Qel hdp'),(fun i i' r q k q' k' e=>by cases e)⟩,by rw [QaS h6];exact hlen1,by rw [QaS h6];exact h11,(fun i r q k e=>by cases e),(fun r h=>by simp at h), .inr ⟨_,_,_,rfl⟩⟩
  ·cases hs
 ·cases hs
end
end Go.Proofs.YtallpjhkmcgpoaaGreat.V
end
section
namespace Go.Proofs.YtallpjhkmcgpoaaGreat.V
open Go
section
variable {P:Program} {D D':Nat→Prop} {A:Nat→Gh} {rs:Rs} {w:World} {cx:Cx} {w0:World} {tm:Tm} {a:Act} {o:Oper}
theorem Qmg (hh:HR cx w A rs) {r:Nat} {q:QaO} {sz off len:Nat} {R:Qaj} {ys:Els} (hr:rs r=some R) (ha:QaB R.sz (!R.own) R.xs q=some (sz,false,ys)) (h6:off+len≤ys.length) {vals:List Value} (h8:vals.length=len * sz)
 (h9:∀ v∈vals,v.oneCell'=true) (h10:∀ (i c:Nat) (cell:AV),i<len→QW ys (off+i) c=some cell→∃ v,vals[i * sz+c]? = some v∧QaR w (((A r).from' q).at' (off+i) c) cell v) :
 Qfs cx w A rs sz (wnd ys off len) vals [r] (fun i c=>((A r).from' q).at' (off+i) c) (fun i=>some (r,q,off+i)):=by
 have ht:=hh.arr hr ha
 have hel:∀ (i:Nat) el,(wnd ys off len)[i]? = some el→el.length=sz:=fun i el he=>by
  rw [Qgp h6] at he
  split at he
  ·exact ht.top.1 _ _ he
  ·cases he
 have key_sub:∀ {i c p bo s' zs ρ b f}, QW ys (off+i) c=some (.deep p bo s' zs)→V.Key s' bo (((A r).from' q).at' (off+i) c) zs f ρ b→R.Key (A r) f (q++(off+i,c)::ρ) b:=fun hc hk=>by
  obtain ⟨s2,zs2,o2,g1,g2⟩:=hk
  exact V.Key.sub ha ⟨s2,zs2,o2,by simp only [QaB,hc,Bool.false_or];exact g1,g2⟩
 refine ⟨by rw [QaS h6,h8],hel,fun i c cell hc=>h10 i c cell (Qbp h6 hc).1 (Qbp h6 hc).2,h9,fun i c p bo s' zs hc => ?_,fun i c p bo s' zs ρ b hc hk => ?_,fun i c p bo s' zs ρ b hc hk => ?_,fun i i' r1 q1 k q' k' e e' => ?_⟩
 ·have:=ht.sub (Qbp h6 hc).2
  simpa using this
 ·exact ⟨r,q,off+i,R,rfl,by simp,hr,key_sub (Qbp h6 hc).2 hk⟩
 ·exact hh.sta r R _ b hr (key_sub (Qbp h6 hc).2 hk)
 ·injection e with e;injection e with a1 a2;injection a2 with a2 a3
  injection e' with e';injection e' with b1 b2;injection b2 with b2 b3
  exact ⟨a2.symm.trans b2,fun hk=>by omega⟩
theorem QbP {xs ys:Els} {i c:Nat} : QW (xs++ys) i c=if i<xs.length then QW xs i c else QW ys (i-xs.length) c:=by
 unfold QW
 by_cases h:i<xs.length
 ·rw [if_pos h,List.getElem?_append_left h]
 ·rw [if_neg h,List.getElem?_append_right (by omega)]
theorem Qfs.append {sz:Nat} {zs1 zs2:Els} {v1 v2:List Value} {a1 a2:List Nat} {G1 G2:Nat→Nat→Gh} {K1 K2:Nat→Option (Nat×QaO×Nat)} (h1:Qfs cx w A rs sz zs1 v1 a1 G1 K1) (h2:Qfs cx w A rs sz zs2 v2 a2 G2 K2)
 (hx:∀ i j r q k q' k',i<zs1.length→K1 i=some (r,q,k)→K2 j=some (r,q',k')→q=q'∧k≠k') :
 Qfs cx w A rs sz (zs1++zs2) (v1++v2) (a1++a2) (fun i=>if i<zs1.length then G1 i else G2 (i-zs1.length)) (fun i=>if i<zs1.length then K1 i else K2 (i-zs1.length)):=by
 refine ⟨by simp [h1.size,h2.size,Nat.add_mul],fun i el he => ?_,fun i c cell hc => ?_,fun v hv => ?_,fun i c p bo s ys hc => ?_,fun i c p bo s ys ρ b hc hk => ?_,fun i c p bo s ys ρ b hc hk => ?_,fun i i' r q k q' k' e e' => ?_⟩
 ·by_cases h:i<zs1.length
  ·rw [List.getElem?_append_left h] at he;exact h1.len i el he
  ·rw [List.getElem?_append_right (by omega)] at he;exact h2.len _ el he
 ·rw [QbP] at hc
  by_cases h:i<zs1.length
  ·rw [if_pos h] at hc
   obtain ⟨v,e1,e2⟩:=h1.cell i c cell hc
   refine ⟨v, ?_,by simpa [h] using e2⟩
   have:=(List.getElem?_eq_some_iff.1 e1).1
   rw [List.getElem?_append_left this];exact e1
  ·rw [if_neg h] at hc
   obtain ⟨v,e1,e2⟩:=h2.cell _ c cell hc
   refine ⟨v, ?_,by simpa [h] using e2⟩
   have hle:zs1.length * sz≤i * sz:=Nat.mul_le_mul_right _ (by omega)
   rw [List.getElem?_append_right (by rw [h1.size];omega),h1.size, ←e1,Nat.sub_mul]
   congr 1;omega
 ·rcases List.mem_append.1 hv with h|h
  ·exact h1.one v h
  ·exact h2.one v h
 ·rw [QbP] at hc
  by_cases h:i<zs1.length
  ·rw [if_pos h] at hc;simpa [h] using h1.tree i c p bo s ys hc
  ·rw [if_neg h] at hc;simpa [h] using h2.tree _ c p bo s ys hc
 ·rw [QbP] at hc
  by_cases h:i<zs1.length
  ·rw [if_pos h] at hc
   simp only [if_pos h] at hk ⊢
   obtain ⟨r,q,k,R,e1,e2,e3⟩:=h1.own i c p bo s ys ρ b hc hk
   exact ⟨r,q,k,R,e1,List.mem_append_left _ e2,e3⟩
  ·rw [if_neg h] at hc
   simp only [if_neg h] at hk ⊢
   obtain ⟨r,q,k,R,e1,e2,e3⟩:=h2.own _ c p bo s ys ρ b hc hk
   exact ⟨r,q,k,R,e1,List.mem_append_right _ e2,e3⟩
 ·rw [QbP] at hc
  by_cases h:i<zs1.length
  ·rw [if_pos h] at hc;simp only [if_pos h] at hk;exact h1.sta i c p bo s ys ρ b hc hk
  ·rw [if_neg h] at hc;simp only [if_neg h] at hk;exact h2.sta _ c p bo s ys ρ b hc hk
 ·by_cases h:i<zs1.length <;> by_cases h':i'<zs1.length <;> simp only [h,h',if_true,if_false] at e e'
  ·exact h1.inj i i' r q k q' k' e e'
  ·obtain ⟨g1,g2⟩:=hx i _ r q k q' k' h e e'
   exact ⟨g1,fun h=>absurd h g2⟩
  ·obtain ⟨g1,g2⟩:=hx i' _ r q' k' q k h' e' e
   exact ⟨g1.symm,fun h=>absurd h.symm g2⟩
  ·obtain ⟨g1,g2⟩:=h2.inj _ _ r q k q' k' e e'
   exact ⟨g1,fun h=>by have:=g2 h;omega⟩
theorem QeD (hh:HR cx w A rs) (hf:Fr cx w0 w) (hi:∀ r R,rs r=some R→D r) {w':World} {M:Nat→Prop} (hc:Chg M w w') {asx:List Nat} {id:Nat} {zs:Els} {sz b oo:Nat} {vals:List Value} {G:Nat→Nat→Gh} {K:Nat→Option (Nat×QaO×Nat)}
 (hE:Qfs cx w A rs sz zs vals asx G K) (hid:¬D id) (hD:∀ r,D r→D' r) (hid':D' id) {cur:Array Value} (hb:Blk w' b false cur) (hcur:∀ (j:Nat) u,vals[j]? = some u→cur[oo+j]? = some u) (hMb:∀ x,M x→x=b)
 (hnew:(cx.base≤b∧w.heap.size≤b∧∀ x,¬M x)∨∃ r0 R0 q0,r0∈asx∧rs r0=some R0∧R0.Key (A r0) false q0 b∧∀ i q k,K i=some (r0,q,k)→q=q0) :
 Qcc cx w0 D D' A rs w (up' A id (Qr0 (b,oo) G)) (up' (kill rs asx) id (some ⟨true,sz,0,zs⟩)) w':=by
 have keyb:∀ {i c p bo s ys ρ}, QW zs i c=some (.deep p bo s ys)→¬V.Key s bo (G i c) ys false ρ b:=fun {i c p bo s ys ρ} h1 h2=>by
  obtain ⟨r,q,k,R,e1,e2,e3,e4⟩:=hE.own i c p bo s ys ρ b h1 h2
  rcases hnew with ⟨_,h,_⟩|⟨r0,R0,q0,g1,g2,g3,g4⟩
  ·have:=Key.lt (hh.tree r R e3) e4;omega
  ·obtain ⟨rfl,e5⟩:=hh.inj _ _ _ _ _ _ b e3 e4 g2 g3
   rw [g4 i q k e1] at e5
   have:=congrArg List.length e5
   simp at this
 have notS:∀ x,M x→¬cx.S x:=fun x hx hs=>by
  rcases hnew with ⟨_,_,h⟩|⟨r0,R0,q0,g1,g2,g3,g4⟩
  ·exact h x hx
  ·rw [hMb x hx] at hs
   have h4:=cx.ok b hs
   rcases hh.own r0 R0 q0 b g2 g3 with h|h
   ·omega
   ·exact h4.2 h
 refine Qiz hh hf hi hc (fun x hx => ?_) hid hD hid' hb ?_ hE.len (fun i c cell hcl => ?_) (fun i c p bo s ys hcl => ?_) (fun i c p bo s ys ρ b' h1 h2 => ?_) hE.sta (fun i c p bo s ys ρ i' c' p' bo' s' ys' ρ' b' h1 h2 h1' h2' => ?_) (fun i c p bo s ys ρ h1=>keyb h1)
 ·rcases hnew with ⟨_,_,h⟩|⟨r0,R0,q0,g1,g2,g3,g4⟩
  ·exact (h x hx).elim
  ·exact ⟨r0,g1,R0,q0,g2,by rw [hMb x hx];exact g3⟩
 ·rcases hnew with ⟨h1,h2,_⟩|⟨r0,R0,q0,g1,g2,g3,g4⟩
  ·exact .inl ⟨h1,h2⟩
  ·exact .inr ⟨r0,g1,R0,q0,g2,g3⟩
 ·obtain ⟨v,e1,e2⟩:=hE.cell i c cell hcl
  exact ⟨v,by rw [Nat.add_assoc];exact hcur _ v e1,hE.one v (List.mem_of_getElem? e1),e2.mono hc.big⟩
 ·have htr:=hE.tree i c p bo s ys hcl
  refine htr.mono hc.big fun ρ f b' k=>hc.block b' (Key.lt htr k) fun hm => ?_
  cases f with
  | false=>rw [hMb b' hm] at k;exact keyb hcl k
  | true=>exact notS b' hm (hE.sta i c p bo s ys ρ b' hcl k)
 ·obtain ⟨r,q,k,R,e1,e2,e3,e4⟩:=hE.own i c p bo s ys ρ b' h1 h2
  exact ⟨r,e2,R,_,e3,e4⟩
 ·obtain ⟨r,q,k,R,e1,e2,e3,e4⟩:=hE.own i c p bo s ys ρ b' h1 h2
  obtain ⟨r',q',k',R',e1',e2',e3',e4'⟩:=hE.own i' c' p' bo' s' ys' ρ' b' h1' h2'
  obtain ⟨rfl,e5⟩:=hh.inj _ _ _ _ _ _ b' e3 e4 e3' e4'
  obtain ⟨rfl,g2⟩:=hE.inj i i' r q k q' k' e1 e1'
  have e6:=List.append_cancel_left e5
  injection e6 with e6 e7
  injection e6 with e6 e8
  exact ⟨g2 e6,e8,e7⟩
theorem QgP (hh:HR cx w A rs) (hf:Fr cx w0 w) (hi:∀ r R,rs r=some R→D r) {asx:List Nat} {id sz:Nat} (hid:¬D id) (hD:∀ r,D r→D' r) (hid':D' id) :
 Qcc cx w0 D D' A rs w (up' A id fun _=>none) (up' (kill rs asx) id (some ⟨true,sz,0,[]⟩)) w:=by
 have hk:∀ {f ρ b}, ¬Qaj.Key ⟨true,sz,0,[]⟩ (fun _=>none) f ρ b:=fun ⟨s,ys,o,_,h⟩=>by cases h
 refine Qhe hh hf hi (Chg.refl (fun _=>False) w) (fun b h=>h.elim) hid hD hid' ?_ (fun ρ b k=>absurd k hk) (fun ρ ρ' b k=>absurd k hk) (fun ρ b k=>absurd k hk)
 exact Qbg.mk' ⟨fun i el he=>by simp at he,rfl⟩ (fun i c p bo sz' zs hc=>by simp [QW] at hc)
theorem Qim {id sz:Nat} (hid':D' id) {A':Nat→Gh} {rs':Rs} {w':World} (hr:rs' id=some ⟨true,sz,0,[]⟩) (ad:Option Addr):PR D' A' rs' w' (.slc id [] 0 sz 0 0) (.slice ad 0 0) :=
 ⟨hid',ad,0,rfl,Nat.le_refl _,(fun _=>rfl),fun R' hR'=>⟨fun h=>absurd rfl h,fun s ro ys ha=>by
  rw [hr] at hR';injection hR' with hR';subst hR'
  simp only [Qaj.arr,Option.some.injEq,Prod.mk.injEq] at ha
  obtain ⟨rfl,_,rfl⟩:=ha
  exact ⟨rfl,Nat.le_refl _, .inl ⟨rfl,Nat.le_refl _⟩⟩⟩⟩
structure QhC (P:Program) (t t2 e sz by':Nat) (z:Value):Prop where
 ht:P.underlying t=some (.slice e)
 ht2:∃ d,P.underlying t2=some d∧∀ k,d ≠ .int k
 hz:∃ i,P.info? e=some i∧i.zero=some z∧i.size=sz∧i.bytes=by'
 hzs:z.cells.size=sz
 pos:0<sz
 by0:0<by'
 zo:One z.cells
theorem QhR {t t2 e sz by' ty:Nat} {z:Value} (T:QhC P t t2 e sz by' z) {b o1 n0 cap n:Nat} {y:Value} {news:List Value} (hlen:(Builtin.lenOf y).run P w = .ok n w)
 (hfc:∀ w1:World,w1.heap=w.heap→(Builtin.firstCells sz n y).run P w1 = .ok news.toArray w1) (hn:news.length=n * sz) (hone:∀ v∈news,v.oneCell'=true) (hroom:n0+n≤cap) {cur:Array Value} (hb:Blk w b false cur)
 (hfit:o1+cap * sz≤cur.size) :
 (Builtin.append_ #[t,t2] ty #[.slice (some ⟨b,o1,none⟩) n0 cap,y]).run P w =
  .ok (.slice (some ⟨b,o1,none⟩) (n0+n) cap) (w.setRow b (cur.toList.take (o1+n0 * sz)++news++cur.toList.drop (o1+n0 * sz+news.length)).toArray):=by
 obtain ⟨i,h1,h2,h3,h4⟩:=T.hz
 obtain ⟨d,h5,h6⟩:=T.ht2
 obtain ⟨ty',fr,hb1,hb2⟩:=hb
 rw [(hb2 rfl).1] at hb1
 have hle:o1+n0 * sz+0+news.length≤cur.size:=by
  have:(n0+n) * sz≤cap * sz:=Nat.mul_le_mul_right _ hroom
  rw [Nat.add_mul] at this
  omega
 have hst:=run_storeCells_at (P:=P) b (o1+n0 * sz) ty' news 0 cur w hb1 hle hone
 simp only [Nat.add_zero] at hst
 have hzero:(match d with | .int _=>true|_=>false)=false:=by cases d <;> first|rfl|exact absurd rfl (h6 _)
 simp only [Builtin.append_,List.getElem?_toArray,List.getElem?_cons_zero,List.getElem?_cons_succ,Sem.run_bind,QV T.ht,Result.andThen_ok,sizeOf,Qbf h1,Sem.run_pure,QV h5,h3,h4]
 cases d <;> first
  | exact absurd rfl (h6 _)
  | simp only [Bool.false_eq_true,if_false,hlen,Result.andThen_ok,hroom,if_true,Sem.run_bind,hfc w rfl,QcR,Bool.not_false,hst,Sem.run_pure]
end
end Go.Proofs.YtallpjhkmcgpoaaGreat.V
end
section
namespace Go.Proofs.YtallpjhkmcgpoaaGreat.V
open Go
section
variable {P:Program} {D D':Nat→Prop} {A:Nat→Gh} {rs:Rs} {w:World} {cx:Cx} {w0:World} {tm:Tm} {a:Act} {o:Oper}
theorem Qfh {t t2 e sz by' ty:Nat} {z:Value} (T:QhC P t t2 e sz by' z) {ad:Option Addr} {y:Value} (hlen:(Builtin.lenOf y).run P w = .ok 0 w)
 (hfc:∀ w1:World,w1.heap=w.heap→(Builtin.firstCells sz 0 y).run P w1 = .ok #[] w1) :
 (Builtin.append_ #[t,t2] ty #[.slice ad 0 0,y]).run P w = .ok (.slice ad 0 0) w:=by
 obtain ⟨i,h1,h2,h3,h4⟩:=T.hz
 obtain ⟨d,h5,h6⟩:=T.ht2
 simp only [Builtin.append_,List.getElem?_toArray,List.getElem?_cons_zero,List.getElem?_cons_succ,Sem.run_bind,QV T.ht,Result.andThen_ok,sizeOf,Qbf h1,Sem.run_pure,QV h5,h3,h4]
 cases d <;> first
  | exact absurd rfl (h6 _)
  | (cases ad <;> simp only [Bool.false_eq_true,if_false,hlen,Result.andThen_ok,Nat.add_zero,Nat.le_refl,if_true,Sem.run_bind,hfc w rfl,Bool.not_false,Sem.run_pure,storeCells])
theorem Qfi {t t2 e sz by' ty:Nat} {z:Value} (T:QhC P t t2 e sz by' z) {ad:Option Addr} {n0 cap n:Nat} {y:Value} {olds news:List Value} (hlen:(Builtin.lenOf y).run P w = .ok n w)
 (hfo:∀ w1:World,w1.heap=w.heap→(Builtin.firstCells sz n0 (.slice ad n0 cap)).run P w1 = .ok olds.toArray w1)
 (hfc:∀ w1:World,w1.heap=w.heap→(Builtin.firstCells sz n y).run P w1 = .ok news.toArray w1) (hgrow:cap<n0+n) (hbytes:(n0+n) * by'≤140737488355328) :
 ∃ cap',n0+n≤cap'∧(Builtin.append_ #[t,t2] ty #[.slice ad n0 cap,y]).run P w =
  .ok (.slice (some ⟨w.heap.size,0,none⟩) (n0+n) cap') { w with drawn:=w.drawn+1,heap:=w.heap.push (.cells (olds.toArray++news.toArray++Builtin.zeroCells z.cells (cap'-(n0+n))) e) } := by
 obtain ⟨i,h1,h2,h3,h4⟩:=T.hz
 obtain ⟨d,h5,h6⟩:=T.ht2
 have hsm:n0+n≤140737488355328:=Nat.le_trans (Nat.le_mul_of_pos_right _ T.by0) hbytes
 have h63:¬(((n0+n:Nat):Int) > IntKind.i64.max):=Int.not_lt.2 (Int.le_trans (Int.ofNat_le.2 hsm) (by decide))
 have hfit:=growslice_fits hgrow hbytes
 have h48:¬(2 ^ 48<Builtin.nextslicecap (n0+n) cap * by'):=by
  have:(2:Nat) ^ 48=281474976710656:=rfl
  rw [this];omega
 refine ⟨grownCap w (n0+n) cap e,grownCap_ge w _ _ _, ?_⟩
 simp only [Builtin.append_,List.getElem?_toArray,List.getElem?_cons_zero,List.getElem?_cons_succ,Sem.run_bind,QV T.ht,Result.andThen_ok,sizeOf,Qbf h1,Sem.run_pure,QV h5,h3,h4]
 cases d <;> first
  | exact absurd rfl (h6 _)
  | (simp only [Bool.false_eq_true,if_false,hlen,Result.andThen_ok,if_neg (Nat.not_le.2 hgrow),Sem.run_bind,Bool.not_false,Sem.run_pure,Sem.run_ite,h63,false_and,h48,run_choose,Question.forced,if_true,run_askRoom,zeroValue,Qbf h1,h2,h4,newRow,run_newObj,grownCap,false_or,gt_iff_lt];rw [hfo { w with drawn:=w.drawn+1 } rfl];simp only [Result.andThen_ok];rw [hfc { w with drawn:=w.drawn+1 } rfl];simp only [Result.andThen_ok,Sem.run_pure])
theorem Qhl {e:Nat} (cur:Array Value):Chg (fun _=>False) w { w with drawn:=w.drawn+1,heap:=w.heap.push (.cells cur e) } :=
 let h:=Qg9 w (.cells cur e)
 ⟨h.size,h.block,h.big,rfl,rfl,rfl,Nat.le_succ _⟩
theorem Qm7 {r:Nat} {asx:List Nat} : kill (up' rs r none) asx=kill rs (r::asx):=by
 funext x
 simp only [kill,List.mem_cons]
 by_cases h:x∈asx
 ·simp [h]
 ·by_cases e:x=r
  ·subst e;simp [h,Q6]
  ·simp [h,e,Qaz rs none e]
theorem Qsh {xs:Els} {n:Nat} (h:n≤xs.length):wnd xs n (xs.length-n)=xs.drop n:=by
 unfold wnd;exact List.take_of_length_le (by simp)
theorem Qhc {l m:List Value} {z:Array Value} {n:Nat} (hl:∀ v∈l,v.oneCell'=true) (hm:∀ v∈m,v.oneCell'=true) (hz:One z):One (l.toArray++m.toArray++Builtin.zeroCells z n):=by
 intro v hv
 simp only [Array.toList_append,List.mem_append] at hv
 rcases hv with (hv|hv)|hv
 ·exact hl v (by simpa using hv)
 ·exact hm v (by simpa using hv)
 ·simp only [Builtin.zeroCells,Array.toList_map,List.mem_map] at hv
  obtain ⟨i,hi,rfl⟩:=hv
  have hi:i<n * z.size:=by simpa using hi
  have hp:0<z.size:=by
   rcases Nat.eq_zero_or_pos z.size with h|h
   ·rw [h,Nat.mul_zero] at hi;omega
   ·exact h
  have hlt:i % z.size<z.size:=Nat.mod_lt _ hp
  refine hz _ ?_
  rw [getElem!_pos z _ hlt]
  exact Array.getElem_mem_toList hlt
theorem QkB (hh:HR cx w A rs) (hf:Fr cx w0 w) (hi:∀ r R,rs r=some R→D r) {t t2 e sz by' ty:Nat} {z:Value} (T:QhC P t t2 e sz by' z) {r pv off len:Nat} {v y:Value} (h:PR D A rs w (.slc r [] pv sz off len) v)
 {R:Qaj} {s:Nat} {xs:Els} (hl:QcV rs r [] pv=some (R,s,false,xs)) {ys:Els} {asx:List Nat} {vals:List Value} {G:Nat→Nat→Gh} {K:Nat→Option (Nat×QaO×Nat)} (hE:Qfs cx w A rs sz ys vals asx G K)
 (hlen:(Builtin.lenOf y).run P w = .ok ys.length w) (hfc:∀ w1:World,w1.heap=w.heap→(Builtin.firstCells sz ys.length y).run P w1 = .ok vals.toArray w1) (hKa:∀ i r q k,K i=some (r,q,k)→r∈asx)
 (hra:r∉asx) (hbytes:(len+ys.length) * by'≤140737488355328) {id:Nat} (hid:¬D id) (hD:∀ r,D r→D' r) (hid':D' id) :
 ∃ v' w' A',(Builtin.append_ #[t,t2] ty #[v,y]).run P w = .ok v' w' ∧
  Qcc cx w0 D D' A rs w A' (up' (kill rs (r::asx)) id (some ⟨true,sz,0,wnd xs off len++ys++(xs.drop (off+len)).drop ys.length⟩)) w' ∧
  VR D' A' (up' (kill rs (r::asx)) id (some ⟨true,sz,0,wnd xs off len++ys++(xs.drop (off+len)).drop ys.length⟩)) w' (.slc id [] 0 sz 0 (len+ys.length)) v':=by
 obtain ⟨rfl,h6,hr,ha,vals0,ad,cap,rfl,h7,h8,h9,h10,h11,h12⟩:=Qer (P:=P) hh h hl
 have ht:=hh.arr hr ha
 have hpre:=Qmg (cx:=cx) hh hr ha h6 h8 h9 h10
 have hpl:(wnd xs off len).length=len:=QaS h6
 have hown:R.own=true:=QjE ha
 by_cases hroom:len+ys.length≤cap
 ·by_cases hcap0:cap=0
  ·
   have g12:xs.length≤off:=by rcases h12 with ⟨_,h12⟩|⟨_,_,_,_,_,_,_,h12,_⟩ <;> omega
   subst hcap0
   obtain rfl:len=0:=by omega
   have hy0:ys=[]:=List.eq_nil_of_length_eq_zero (by omega)
   subst hy0
   have e1:wnd xs off 0++[]++(xs.drop (off+0)).drop ([]:Els).length=[]:=by
    simp only [wnd,List.take_zero,List.nil_append,List.length_nil,List.drop_zero,Nat.add_zero]
    exact List.drop_eq_nil_of_le g12
   rw [e1]
   have hv0:vals=[]:=List.eq_nil_of_length_eq_zero (by have:=hE.size;simpa using this)
   subst hv0
   exact ⟨_,w,_,Qfh T hlen hfc,QgP hh hf hi hid hD hid',(Qim hid' (Q6 _ _ _) ad).vr⟩
  ·
   rcases h12 with ⟨h12,_⟩|⟨b,oo,cur,h13,rfl,hb,hcur,hxs,hcells,hvals0⟩
   ·exact absurd h12 hcap0
   have hex:=QlM h hr (Qb0 hl).2 (by omega) h13 hb
   have hkb:R.Key (A r) false [] b:=⟨_,xs,oo,ha,by simpa [Gh.from'] using h13⟩
   have hrun:=QhR (ty:=ty) T hlen hfc hE.size hE.one hroom hb (o1:=oo+off * s) (by rw [Nat.add_mul] at hcur;omega)
   have hfit:oo+off * s+len * s+vals.length≤cur.toList.length:=by
    have:(len+ys.length) * s≤cap * s:=Nat.mul_le_mul_right _ hroom
    rw [Nat.add_mul] at this hcur
    have e3:cur.toList.length=cur.size:=Array.length_toList
    have e4:=hE.size
    omega
   generalize hcur':(cur.toList.take (oo+off * s+len * s)++vals++cur.toList.drop (oo+off * s+len * s+vals.length)).toArray=cur' at hrun
   have hat:∀ k,cur'[k]? = if oo+off * s+len * s≤k∧k<oo+off * s+len * s+vals.length then vals[k-(oo+off * s+len * s)]? else cur[k]? := fun k=>by
    rw [←hcur',List.getElem?_toArray,QnN hfit]
    split
    ·rfl
    ·rw [Array.getElem?_toList]
   have hsize:cur'.size=cur.size:=by
    rw [←hcur'];simp only [List.size_toArray];rw [Qb9 hfit,Array.length_toList]
   obtain ⟨hch,hb'⟩:=QeT hb hsize (fun h=>by rw [←hcur'];exact h.splice hE.one)
   have hpost:∃ v3,Qfs cx w A rs s ((xs.drop (off+len)).drop ys.length) v3 [r] (fun i c=>((A r).from' []).at' (off+len+ys.length+i) c) (fun i=>some (r,[],off+len+ys.length+i)) ∧
    ∀ (j:Nat) u,v3[j]? = some u→cur[oo+(off+len+ys.length) * s+j]? = some u:=by
    rw [List.drop_drop]
    by_cases h3:off+len+ys.length≤xs.length
    ·have hw:=Qsh h3
     rw [←hw]
     let v3:=(List.range ((xs.length-(off+len+ys.length)) * s)).map fun j=>(cur[oo+(off+len+ys.length) * s+j]?).getD undef
     have hl3:v3.length=(xs.length-(off+len+ys.length)) * s:=by simp [v3]
     have hcell3:∀ (i c:Nat) (cell:AV),i<xs.length-(off+len+ys.length)→QW xs (off+len+ys.length+i) c=some cell→∃ v,v3[i * s+c]? = some v∧v.oneCell'=true∧QaR w (((A r).from' []).at' (off+len+ys.length+i) c) cell v:=fun i c cell hi hc=>by
      obtain ⟨v,g1,g2,g3⟩:=hcells _ _ _ hc
      obtain ⟨_,hcs⟩:=Qhw ht.top.1 hc
      refine ⟨v, ?_,g2,g3⟩
      have:(i+1) * s≤(xs.length-(off+len+ys.length)) * s:=Nat.mul_le_mul_right _ hi
      rw [Nat.add_mul] at this
      have e5:oo+(off+len+ys.length) * s+(i * s+c)=oo+(off+len+ys.length+i) * s+c:=by rw [Nat.add_mul (off+len+ys.length) i];omega
      simp only [v3,List.getElem?_map]
      rw [List.getElem?_range (by omega)]
      simp only [Option.map_some,e5,g1,Option.getD_some]
     refine ⟨v3,Qmg hh hr ha (by omega) hl3 (fun v hv => ?_) (fun i c cell hi hc=>let ⟨v,g1,_,g3⟩:=hcell3 i c cell hi hc;⟨v,g1,g3⟩),fun j u hj => ?_⟩
     ·obtain ⟨j,hj,e1⟩:=List.getElem_of_mem hv
      have hj':j<(xs.length-(off+len+ys.length)) * s:=by omega
      have hs:=T.pos
      have hi:j / s<xs.length-(off+len+ys.length):=Nat.div_lt_of_lt_mul (by rw [Nat.mul_comm];exact hj')
      have hc:j % s<s:=Nat.mod_lt _ hs
      have hel:xs[off+len+ys.length+j / s]? = some (xs[off+len+ys.length+j / s]'(by omega)):=List.getElem?_eq_getElem (by omega)
      have hl2:=ht.top.1 _ _ hel
      obtain ⟨v',g1,g2,_⟩:=hcell3 (j / s) (j % s) _ hi (QbN hel (List.getElem?_eq_getElem (by omega)))
      rw [show j / s * s+j % s=j from by rw [Nat.mul_comm];exact Nat.div_add_mod j s,List.getElem?_eq_getElem hj,e1] at g1
      injection g1 with g1;rw [g1];exact g2
     ·have hj':=(List.getElem?_eq_some_iff.1 hj).1
      rw [hl3] at hj'
      have hs:=T.pos
      have hi:j / s<xs.length-(off+len+ys.length):=Nat.div_lt_of_lt_mul (by rw [Nat.mul_comm];exact hj')
      have hc:j % s<s:=Nat.mod_lt _ hs
      have hel:xs[off+len+ys.length+j / s]? = some (xs[off+len+ys.length+j / s]'(by omega)):=List.getElem?_eq_getElem (by omega)
      have hl2:=ht.top.1 _ _ hel
      obtain ⟨v',g1,g2,_⟩:=hcells _ _ _ (QbN hel (List.getElem?_eq_getElem (show j % s<_ by omega)))
      have e5:oo+(off+len+ys.length+j / s) * s+j % s=oo+(off+len+ys.length) * s+j:=by
       have:=Nat.div_add_mod j s
       rw [Nat.add_mul (off+len+ys.length) (j / s),Nat.mul_comm (j / s) s];omega
      rw [e5] at g1
      simp only [v3,List.getElem?_map] at hj
      rw [List.getElem?_range (by omega)] at hj
      simp only [Option.map_some,g1,Option.getD_some,Option.some.injEq] at hj
      rw [g1,hj]
    ·rw [List.drop_eq_nil_of_le (by omega)]
     exact ⟨[],⟨by simp,fun i el he=>by simp at he,fun i c cell hc=>by simp [QW] at hc,fun v hv=>by simp at hv,fun i c p bo s ys hc=>by simp [QW] at hc,fun i c p bo s ys ρ b hc=>by simp [QW] at hc,
      fun i c p bo s ys ρ b hc=>by simp [QW] at hc,fun i i' r1 q1 k q' k' e e'=>by
       injection e with e;injection e with a1 a2;injection a2 with a2 a3
       injection e' with e';injection e' with b1 b2;injection b2 with b2 b3
       exact ⟨a2.symm.trans b2,fun hk=>by omega⟩⟩,fun j u hj=>by simp at hj⟩
   obtain ⟨v3,hE3,hv3⟩:=hpost
   have hE1:=hpre.append hE (fun i j r1 q k q' k' _ e1 e2=>by
    injection e1 with e1;injection e1 with a1 a2
    subst a1
    exact absurd (hKa _ _ _ _ e2) hra)
   have hE2:=hE1.append hE3 (fun i j r1 q k q' k' hi e1 e2=>by
    injection e2 with e2;injection e2 with a1 a2;injection a2 with a2 a3
    subst a1
    rw [hpl] at e1
    by_cases h:i<len
    ·rw [if_pos h] at e1
     injection e1 with e1;injection e1 with b1 b2;injection b2 with b2 b3
     exact ⟨b2.symm.trans a2,by omega⟩
    ·rw [if_neg h] at e1
     exact absurd (hKa _ _ _ _ e1) hra)
   have hst:=QeD (D':=D') (id:=id) (oo:=oo+off * s) hh hf hi hch hE2 hid hD hid' hb' (fun j u hj => ?_) (fun x hx=>hx) (.inr ⟨r,R,[],by simp,hr,hkb,fun i q k e => ?_⟩)
   ·have hks:kill rs ([r]++asx++[r])=kill rs (r::asx):=by
     funext x;simp only [kill,List.mem_append,List.mem_cons,List.not_mem_nil,or_false]
     by_cases g1:x=r <;> by_cases g2:x∈asx <;> simp [g1,g2]
    rw [hks] at hst
    refine ⟨_,_,_,hrun,hst,(QfP hid' (Q6 _ _ _) (by rw [Q6];rfl) rfl ?_ ?_ ?_).vr⟩
    ·simp only [List.length_append,hpl];omega
    ·simp only [List.length_append,hpl,List.length_drop];omega
    ·obtain ⟨ty',fr,g1,_⟩:=hb'
     have e6:oo+(off+cap) * s=oo+off * s+cap * s:=by rw [Nat.add_mul];omega
     have e7:oo+off * s+cap * s=cur'.size:=by rw [hsize, ←e6];exact hex
     exact ⟨cur',ty',fr,g1,Nat.le_of_eq e7,fun _=>e7⟩
   ·
    have hl1:=hpre.size
    rw [hpl] at hl1
    rw [hat]
    by_cases g1:j<len * s
    ·rw [List.append_assoc,List.getElem?_append_left (by omega)] at hj
     rw [if_neg (by omega)]
     exact hvals0 j u hj
    ·by_cases g2:j<len * s+vals.length
     ·rw [List.append_assoc,List.getElem?_append_right (by omega),List.getElem?_append_left (by omega)] at hj
      rw [if_pos ⟨by omega,by omega⟩, ←hj];congr 1;omega
     ·rw [List.getElem?_append_right (by simp;omega)] at hj
      rw [if_neg (by omega)]
      have:=hv3 _ u hj
      rw [←this];congr 1
      simp only [List.length_append,hl1,hE.size]
      rw [Nat.add_mul,Nat.add_mul]
      have:=hE.size
      omega
   ·rw [show (wnd xs off len++ys).length=len+ys.length by simp [hpl],hpl] at e
    by_cases g1:i<len+ys.length
    ·rw [if_pos g1] at e
     by_cases g2:i<len
     ·rw [if_pos g2] at e;injection e with e;injection e with _ e;injection e with e _;exact e.symm
     ·rw [if_neg g2] at e;exact absurd (hKa _ _ _ _ e) hra
    ·rw [if_neg g1] at e;injection e with e;injection e with _ e;injection e with e _;exact e.symm
 ·
  have hpost:(xs.drop (off+len)).drop ys.length=[]:=by
   rw [List.drop_drop]
   apply List.drop_eq_nil_of_le
   rcases h12 with ⟨rfl,h12⟩|⟨b,oo,cur,_,_,_,_,hxs,_⟩ <;> omega
  rw [hpost,List.append_nil]
  obtain ⟨cap',hc',hrun⟩:=Qfi (ty:=ty) T hlen h11 hfc (by omega) hbytes
  have hE1:=hpre.append hE (fun i j r1 q k q' k' _ e1 e2=>by
   injection e1 with e1;injection e1 with a1 a2
   subst a1
   exact absurd (hKa _ _ _ _ e2) hra)
  have hst:=QeD (D':=D') (id:=id) (oo:=0) hh hf hi (Qhl (e:=e) (vals0.toArray++vals.toArray++Builtin.zeroCells z.cells (cap'-(len+ys.length)))) hE1 hid hD hid' (b:=w.heap.size) ⟨e,(0,0),Qct w _,fun _=>⟨rfl,Qhc hpre.one hE.one T.zo⟩⟩ (fun j u hj => ?_) (fun x hx=>hx.elim) (.inl ⟨hf.base,Nat.le_refl _,fun x h=>h⟩)
  ·refine ⟨_,_,_,hrun,hst,(QfP hid' (Q6 _ _ _) (by rw [Q6];rfl) rfl ?_ ?_ (Big.of (Qct w _) ?_)).vr⟩
   ·simp only [List.length_append,hpl];omega
   ·simp only [List.length_append,hpl];exact hc'
   ·simp only [Array.size_append,List.size_toArray,size_zeroCells,T.hzs,h8,hE.size,Nat.zero_add]
    rw [←Nat.add_mul, ←Nat.add_mul]
    congr 1;omega
  ·rw [Nat.zero_add]
   have hj':=(List.getElem?_eq_some_iff.1 hj).1
   rw [←Array.getElem?_toList]
   simp only [Array.toList_append,List.toList_toArray]
   rw [List.getElem?_append_left hj'];exact hj
theorem QtT (hh:HR cx w A rs) (hf:Fr cx w0 w) (hi:∀ r R,rs r=some R→D r) {t t2 e sz by' ty:Nat} {z:Value} (T:QhC P t t2 e sz by' z) {y:Value}
 {ys:Els} {asx:List Nat} {vals:List Value} {G:Nat→Nat→Gh} {K:Nat→Option (Nat×QaO×Nat)} (hE:Qfs cx w A rs sz ys vals asx G K)
 (hlen:(Builtin.lenOf y).run P w = .ok ys.length w) (hfc:∀ w1:World,w1.heap=w.heap→(Builtin.firstCells sz ys.length y).run P w1 = .ok vals.toArray w1)
 (hbytes:ys.length * by'≤140737488355328) {id:Nat} (hid:¬D id) (hD:∀ r,D r→D' r) (hid':D' id) :
 ∃ v' w' A',(Builtin.append_ #[t,t2] ty #[.slice none 0 0,y]).run P w = .ok v' w'∧Qcc cx w0 D D' A rs w A' (up' (kill rs asx) id (some ⟨true,sz,0,ys⟩)) w' ∧
  VR D' A' (up' (kill rs asx) id (some ⟨true,sz,0,ys⟩)) w' (.slc id [] 0 sz 0 ys.length) v':=by
 rcases Nat.eq_zero_or_pos ys.length with h0|h0
 ·have hy0:ys=[]:=List.eq_nil_of_length_eq_zero h0
  subst hy0
  have hv0:vals=[]:=List.eq_nil_of_length_eq_zero (by have:=hE.size;simpa using this)
  subst hv0
  exact ⟨_,w,_,Qfh T hlen hfc,QgP hh hf hi hid hD hid',(Qim hid' (Q6 _ _ _) none).vr⟩
 ·obtain ⟨cap',hc',hrun⟩:=Qfi (ty:=ty) (ad:=none) (n0:=0) (cap:=0) (olds:=[]) T hlen (fun w1 _=>run_firstCells_none (P:=P) w1 _ _ _ _) hfc (by omega) (by simpa using hbytes)
  have hst:=QeD (D':=D') (id:=id) (oo:=0) hh hf hi (Qhl (e:=e) (([]:List Value).toArray++vals.toArray++Builtin.zeroCells z.cells (cap'-(0+ys.length)))) hE hid hD hid' (b:=w.heap.size) ⟨e,(0,0),Qct w _,fun _=>⟨rfl,Qhc (fun _ h=>by cases h) hE.one T.zo⟩⟩ (fun j u hj => ?_) (fun x hx=>hx.elim) (.inl ⟨hf.base,Nat.le_refl _,fun x h=>h⟩)
  ·simp only [Nat.zero_add] at hrun hst hc'
   refine ⟨_,_,_,hrun,hst, ?_⟩
   have hbig:Big ({ w with drawn:=w.drawn+1,heap:=w.heap.push (.cells (([]:List Value).toArray++vals.toArray++Builtin.zeroCells z.cells (cap'-ys.length)) e) } : World) w.heap.size (0+cap' * sz,true):=by
    refine Big.of (Qct w _) ?_
    simp only [Array.size_append,List.size_toArray,size_zeroCells,T.hzs,hE.size,Nat.zero_add,List.length_nil]
    rw [←Nat.add_mul]
    congr 1;omega
   exact (QfP (R:=⟨true,sz,0,ys⟩) hid' (Q6 _ _ _) (by rw [Q6];rfl) rfl (Nat.le_refl _) hc' hbig).vr
  ·have hj':=(List.getElem?_eq_some_iff.1 hj).1
   rw [←Array.getElem?_toList]
   simp only [Array.toList_append,List.toList_toArray,List.nil_append,Nat.zero_add]
   rw [List.getElem?_append_left hj'];exact hj
end
end Go.Proofs.YtallpjhkmcgpoaaGreat.V
end
section
namespace Go.Proofs.YtallpjhkmcgpoaaGreat.V
open Go
theorem QiF {q:QaO} (h:Qc2 q=none):q=[]:=by
 cases q with
 | nil=>rfl
 | cons x q =>
  exfalso
  induction q generalizing x with
  | nil=>simp [Qc2] at h
  | cons y q ih=>simp only [Qc2,Option.map_eq_none_iff] at h;exact ih y h
theorem Qea:∀ {q q':QaO} {i c:Nat}, Qc2 q=some (q',i,c)→q=q'++[(i,c)]
 | [],q',i,c,h=>by simp [Qc2] at h
 | [(a,b)],q',i,c,h=>by simp only [Qc2,Option.some.injEq,Prod.mk.injEq] at h;obtain ⟨rfl,rfl,rfl⟩:=h;rfl
 | x::y::q,q',i,c,h=>by
  simp only [Qc2,Option.map_eq_some_iff] at h
  obtain ⟨⟨q2,i2,c2⟩,h1,h2⟩:=h
  simp only [Prod.mk.injEq] at h2
  obtain ⟨rfl,rfl,rfl⟩:=h2
  have:=Qea (q:=y::q) h1
  rw [this];rfl
theorem Qgn.trans {D D1:Nat→Prop} {A A1 A2:Nat→Gh} {rs rs1 rs2:Rs} (h:Qgn D A rs A1 rs1) (h':Qgn D1 A1 rs1 A2 rs2) (hD:∀ r,D r→D1 r):Qgn D A rs A2 rs2:=by
 refine ⟨fun x hx e => ?_,fun r R2 hDr hr => ?_⟩
 ·have e1:rs1 x=none:=by
   cases e2:rs1 x with
   | none=>rfl
   | some R=>obtain ⟨R0,g,_⟩:=h.2 x R hx e2;rw [e] at g;cases g
  exact (h'.1 x (hD x hx) e1).trans (h.1 x hx e)
 obtain ⟨R1,a1,a2,a3,a4,a5,a6,a7⟩:=h'.2 r R2 (hD r hDr) hr
 obtain ⟨R,b1,b2,b3,b4,b5,b6,b7⟩:=h.2 r R1 hDr a1
 refine ⟨R,b1,by omega,b3.trans a3,b4.trans a4,b5.trans a5,a6.trans b6,fun hp q s ro ys h2 => ?_⟩
 obtain ⟨ys1,c1,c2,c3⟩:=a7 (by omega) q s ro ys h2
 obtain ⟨ys0,d1,d2,d3⟩:=b7 (by omega) q s ro ys1 c1
 exact ⟨ys0,d1,d2.trans c2,c3.trans d3⟩
theorem Qcc.trans {cx:Cx} {w0:World} {D D1 D2:Nat→Prop} {A A1 A2:Nat→Gh} {rs rs1 rs2:Rs} {w w1 w2:World} (h:Qcc cx w0 D D1 A rs w A1 rs1 w1) (h':Qcc cx w0 D1 D2 A1 rs1 w1 A2 rs2 w2) (hD:∀ r,D r→D1 r) :
 Qcc cx w0 D D2 A rs w A2 rs2 w2 :=
 ⟨h'.heap,h.le.trans h'.le hD,fun b n hb=>h'.big b n (h.big b n hb),h'.fr,h'.ids,Nat.le_trans h.size h'.size,fun x hb hno=>(h'.out x (Nat.lt_of_lt_of_le hb h.size) fun r R ρ e k=>by
  rcases h.keys r R ρ x e k with g|⟨r0,R0,ρ0,g1,g2⟩
  ·omega
  ·exact hno r0 R0 ρ0 g1 g2).trans (h.out x hb hno),fun r R ρ x e k=>by
  rcases h'.keys r R ρ x e k with g|⟨r0,R0,ρ0,g1,g2⟩
  ·exact .inl (Nat.le_trans h.size g)
  ·exact h.keys r0 R0 ρ0 x g1 g2⟩
section
variable {P:Program} {D D':Nat→Prop} {A:Nat→Gh} {rs:Rs} {w:World} {cx:Cx} {w0:World} {tm:Tm} {a:Act} {o:Oper}
theorem Qfs.mono {sz:Nat} {zs:Els} {vals:List Value} {asx:List Nat} {G:Nat→Nat→Gh} {K:Nat→Option (Nat×QaO×Nat)} (h:Qfs cx w A rs sz zs vals asx G K) {A':Nat→Gh} {rs':Rs} (he:∀ r∈asx,rs' r=rs r∧A' r=A r) :
 Qfs cx w A' rs' sz zs vals asx G K :=
 ⟨h.size,h.len,h.cell,h.one,h.tree,fun i c p bo s ys ρ b h1 h2=>by
  obtain ⟨r,q,k,R,e1,e2,e3,e4⟩:=h.own i c p bo s ys ρ b h1 h2
  exact ⟨r,q,k,R,e1,e2,by rw [(he r e2).1];exact e3,by rw [(he r e2).2];exact e4⟩,h.sta,h.inj⟩
theorem Qgt (hh:HR cx w A rs) (hf:Fr cx w0 w) (hi:∀ r R,rs r=some R→D r) {r:Nat} {R:Qaj} (hr:rs r=some R) {q:QaO} {i c:Nat} {sz:Nat} {ys:Els} (ha:QaB R.sz (!R.own) R.xs (q++[(i,c)])=some (sz,false,ys))
 {id:Nat} (hid:¬D id) (hD:∀ r,D r→D' r) (hid':D' id) :
 ∃ A',Qcc cx w0 D D' A rs w A' (up' (up' rs r (some { R with pv:=R.pv,xs:=Qcb R.xs q i c })) id (some ⟨true,sz,0,ys⟩)) w∧(∀ r2,r2≠r→r2≠id→A' r2=A r2)∧A' id=(A r).from' (q++[(i,c)]):=by
 have hri:r≠id:=fun e=>hid (e▸hi r R hr)
 rw [Qb3] at ha
 cases hq:QaB R.sz (!R.own) R.xs q with
 | none=>rw [hq] at ha;simp at ha
 | some x =>
  obtain ⟨s1,ro1,zs⟩:=x
  rw [hq] at ha
  simp only [Option.bind_some] at ha
  obtain ⟨p,bo,sz',ys',hc,h2⟩:=QaZ ha
  simp only [QaB,Option.some.injEq,Prod.mk.injEq] at h2
  obtain ⟨rfl,hro,rfl⟩:=h2
  simp only [Bool.or_eq_false_iff] at hro
  obtain ⟨rfl,rfl⟩:=hro
  obtain ⟨el,hel,helc⟩:=Qas hc
  have hcl:c<el.length:=(List.getElem?_eq_some_iff.1 helc).1
  have hcel:c+[AV.undef].length≤el.length:=by simp;omega
  have ht:=hh.arr hr hq
  have hcells:∀ j k,QW (QaY zs i c [.undef]) j k=if j=i∧k=c then some .undef else QW zs j k:=fun j k=>by
   rw [QbT hel hcel]
   by_cases e:j=i∧k=c
   ·obtain ⟨rfl,rfl⟩:=e;simp
   ·rw [if_neg e,if_neg]
    intro ⟨h1,h2,h3⟩
    simp at h3
    exact e ⟨h1,by omega⟩
  have hkey:∀ {f ρ b}, V.Key s1 false ((A r).from' q) (QaY zs i c [.undef]) f ρ b→V.Key s1 false ((A r).from' q) zs f ρ b∧∀ ρ',ρ≠(i,c)::ρ':=fun {f ρ b} ⟨s,ws,o,h1,h2⟩=>by
   cases ρ with
   | nil =>
    simp only [QaB,Option.some.injEq,Prod.mk.injEq] at h1
    exact ⟨⟨s1,zs,o,by simp only [QaB,h1.2.1],h2⟩,fun ρ' e=>by cases e⟩
   | cons x ρ =>
    obtain ⟨j,k⟩:=x
    obtain ⟨p2,bo2,s2,ws2,h3,h4⟩:=QaZ h1
    rw [hcells] at h3
    by_cases e:j=i∧k=c
    ·rw [if_pos e] at h3;cases h3
    ·rw [if_neg e] at h3
     exact ⟨⟨s,ws,o,by simp only [QaB,h3];exact h4,h2⟩,fun ρ' e'=>by
      simp only [List.cons.injEq,Prod.mk.injEq] at e'
      exact e e'.1⟩
  have hin:∀ {f ρ b}, V.Key s1 false ((A r).from' q) zs f ρ b→R.Key (A r) f (q++ρ) b:=fun h=>h.sub hq
  have hB:(A r).from' q []=A r q:=by simp [Gh.from']
  have htree':Qbg w false s1 ((A r).from' q) (QaY zs i c [.undef]):=by
   refine Qbg.mk' ⟨fun j e he => ?_, ?_⟩ fun j k p bo s ws hjk => ?_
   ·rw [Qev hel] at he
    split at he
    ·injection he with he;subst he;rw [Qb9 hcel];exact ht.top.1 i el hel
    ·exact ht.top.1 j e he
   ·have h2:=ht.top.2
    cases e:(A r).from' q [] with
    | none =>
     rw [e] at h2
     simp only at h2 ⊢
     rw [h2] at hc;simp [QW] at hc
    | some x =>
     obtain ⟨b,o⟩:=x
     rw [e] at h2
     obtain ⟨cur,h3,h4⟩:=h2
     refine ⟨cur,h3,fun j k cell hjk => ?_⟩
     rw [hcells] at hjk
     by_cases e:j=i∧k=c
     ·rw [if_pos e] at hjk
      injection hjk with hjk;subst hjk
      obtain ⟨rfl,rfl⟩:=e
      obtain ⟨v,g1,g2,_⟩:=h4 _ _ _ hc
      exact ⟨v,g1,g2,trivial⟩
     ·rw [if_neg e] at hjk;exact h4 j k cell hjk
   ·rw [hcells] at hjk
    by_cases e:j=i∧k=c
    ·rw [if_pos e] at hjk;cases hjk
    ·rw [if_neg e] at hjk;exact ht.sub hjk
  have hsame:∀ ρ s' ro' ys',QaB s1 false (QaY zs i c [.undef]) ρ=some (s',ro',ys')→∃ ws,QaB s1 false zs ρ=some (s',ro',ws)∧ws.length=ys'.length∧(A r).from' q ρ=A r (q++ρ):=fun ρ s' ro' ys' h=>by
   cases ρ with
   | nil =>
    simp only [QaB,Option.some.injEq,Prod.mk.injEq] at h ⊢
    obtain ⟨rfl,rfl,rfl⟩:=h
    exact ⟨zs,⟨rfl,rfl,rfl⟩,(Qcm _ _ _ _).symm,by simp [Gh.from']⟩
   | cons x ρ =>
    obtain ⟨j,k⟩:=x
    obtain ⟨p2,bo2,s2,ws2,h3,h4⟩:=QaZ h
    rw [hcells] at h3
    by_cases e:j=i∧k=c
    ·rw [if_pos e] at h3;cases h3
    ·rw [if_neg e] at h3
     exact ⟨ys',by simp only [QaB,h3];exact h4,rfl,by simp [Gh.from']⟩
  have st1:=QgI (D':=D') (asx:=[]) (M:=fun _=>False) (B':=(A r).from' q) (g:=fun ys=>QaY ys i c [.undef]) (pv':=R.pv) hh hf hi hr hq (fun ys=>Qcm _ _ _ _) hB (Chg.refl _ w) (by simp) (fun b h=>h.elim) (fun b h=>h.elim) htree'
   (fun ρ b k => .inr (.inl ⟨ρ,hin (hkey k).1⟩)) (fun ρ ρ' b k k'=>List.append_cancel_left (hh.inj r R _ r R _ b hr (hin (hkey k).1) hr (hin (hkey k').1)).2) (fun ρ b k=>hh.sta r R _ b hr (hin (hkey k).1)) (.inr ⟨rfl,hsame⟩) hD
  have ek:kill rs []=rs:=by funext r;simp [kill]
  rw [ek] at st1
  have hr1:up' rs r (some { R with pv:=R.pv,xs:=Qcb R.xs q i c }) r=some { R with pv:=R.pv,xs:=Qcb R.xs q i c } := Q6 _ _ _
  have hpath:QaB R.sz (!R.own) R.xs (q++[(i,c)])=some (sz',false,ys'):=by rw [Qb3,hq];simp only [Option.bind_some,QaB,hc,Bool.or_false]
  have kid:∀ {f ρ b}, Qaj.Key ⟨true,sz',0,ys'⟩ ((A r).from' (q++[(i,c)])) f ρ b→R.Key (A r) f (q++(i,c)::ρ) b:=fun {f ρ b} h=>by
   have:=V.Key.sub hpath h
   rwa [List.append_assoc] at this
  have kr:∀ {ρ b}, Qaj.Key { R with pv:=R.pv,xs:=Qcb R.xs q i c } (QcO (A r) q ((A r).from' q)) false ρ b→R.Key (A r) false ρ b∧∀ ρ',ρ≠q++(i,c)::ρ':=fun {ρ b} h=>by
   rcases Qdm (g:=fun ys=>QaY ys i c [.undef]) (fun ys=>Qcm _ _ _ _) hq hB h with ⟨ρ',rfl,h1⟩|⟨h1,h2⟩
   ·exact ⟨hin (hkey h1).1,fun ρ2 e=>(hkey h1).2 ρ2 (List.append_cancel_left e)⟩
   ·exact ⟨h2,fun ρ'=>h1 _⟩
  refine ⟨up' (up' A r (QcO (A r) q ((A r).from' q))) id ((A r).from' (q++[(i,c)])),⟨?_,⟨fun x hx hn => ?_,fun r2 R2 hDr h => ?_⟩,fun b n h=>h,hf,fun r2 R2 h => ?_,Nat.le_refl _,fun _ _ _=>rfl,fun r2 R2 ρ b h k => ?_⟩,fun r2 h1 h2=>by rw [Qaz _ _ h2,Qaz _ _ h1],Q6 _ _ _⟩
  rotate_left 4
  ·by_cases e:r2=id
   ·subst e
    rw [Q6] at h k
    injection h with h;subst h
    exact .inr ⟨r,R,_,hr,kid k⟩
   ·rw [Qaz _ _ e] at h k
    exact st1.keys r2 R2 ρ b h k
  rotate_left 1
  ·have a1:x≠id:=by intro e;subst e;exact hid hx
   have a2:x≠r:=by intro e;subst e;rw [hr] at hn;cases hn
   rw [Qaz _ _ a1,Qaz _ _ a2]
  rotate_left 2
  ·have hh1:=st1.heap
   have at_id:∀ {r2 R2}, r2=id→up' (up' rs r (some { R with pv:=R.pv,xs:=Qcb R.xs q i c })) id (some ⟨true,sz',0,ys'⟩) r2=some R2→R2=⟨true,sz',0,ys'⟩:=fun e h=>by
    subst e;rw [Q6] at h;injection h with h;exact h.symm
   refine ⟨fun r2 R2 h => ?_,fun r2 R2 ρ b h k => ?_,fun r2 R2 ρ b h k => ?_,fun r2 R2 ρ r3 R3 ρ' b h k h' k' => ?_⟩
   ·by_cases e:r2=id
    ·rw [at_id e h,e,Q6];exact (hh.tree r R hr).path hpath
    ·rw [Qaz _ _ e] at h;rw [Qaz _ _ e];exact hh1.tree r2 R2 h
   ·by_cases e:r2=id
    ·rw [at_id e h,e,Q6] at k;exact hh.own r R _ b hr (kid k)
    ·rw [Qaz _ _ e] at h k;exact hh1.own r2 R2 ρ b h k
   ·by_cases e:r2=id
    ·rw [at_id e h,e,Q6] at k;exact hh.sta r R _ b hr (kid k)
    ·rw [Qaz _ _ e] at h k;exact hh1.sta r2 R2 ρ b h k
   ·have mix:∀ {r2 R2 ρ ρ'}, r2≠id→up' rs r (some { R with pv:=R.pv,xs:=Qcb R.xs q i c }) r2=some R2→R2.Key (up' A r (QcO (A r) q ((A r).from' q)) r2) false ρ b →
     Qaj.Key ⟨true,sz',0,ys'⟩ ((A r).from' (q++[(i,c)])) false ρ' b→False:=fun {r2 R2 ρ ρ'} e h k k'=>by
     have k2:=kid k'
     by_cases e2:r2=r
     ·subst e2
      rw [Q6] at h k
      injection h with h;subst h
      obtain ⟨g1,g2⟩:=kr k
      exact g2 _ (hh.inj r2 R ρ r2 R _ b hr g1 hr k2).2
     ·rw [Qaz _ _ e2] at h k
      exact e2 (hh.inj r2 R2 ρ r R _ b h k hr k2).1
    by_cases e:r2=id
    ·rw [at_id e h,e,Q6] at k
     by_cases e':r3=id
     ·rw [at_id e' h',e',Q6] at k'
      have:=(hh.inj r R _ r R _ b hr (kid k) hr (kid k')).2
      have:=List.append_cancel_left this
      injection this with _ this
      exact ⟨e.trans e'.symm,this⟩
     ·rw [Qaz _ _ e'] at h' k'
      exact (mix e' h' k' k).elim
    ·rw [Qaz _ _ e] at h k
     by_cases e':r3=id
     ·rw [at_id e' h',e',Q6] at k'
      exact (mix e h k k').elim
     ·rw [Qaz _ _ e'] at h' k'
      exact hh1.inj _ _ _ _ _ _ b h k h' k'
  ·have e:r2≠id:=fun e=>hid (e▸hDr)
   rw [Qaz _ _ e] at h
   rw [Qaz _ _ e]
   exact st1.le.2 r2 R2 hDr h
  ·by_cases e:r2=id
   ·exact e▸hid'
   ·rw [Qaz _ _ e] at h;exact st1.ids r2 R2 h
end
end Go.Proofs.YtallpjhkmcgpoaaGreat.V
end
section
namespace Go.Proofs.YtallpjhkmcgpoaaGreat.V
open Go
section
variable {P:Program} {D D':Nat→Prop} {A:Nat→Gh} {rs:Rs} {w:World} {cx:Cx} {w0:World} {tm:Tm} {a:Act} {o:Oper}
theorem QsI (h:TR D A rs w tm a) (hh:HR cx w A rs) (hf:Fr cx w0 w) (hi:∀ r R,rs r=some R→D r) {t t2 e sz by':Nat} {z:Value} (T:QhC P t t2 e sz by' z) {cl:Call} {x y:Operand} {x' y':X}
 (ho:o.op = .call cl) (hcl:cl.callee = .builtin .append) (hca:cl.args = #[x,y]) (hct:cl.argTypes = #[t,t2]) (hx:xOk x x'=true) (hy:xOk y y'=true)
 {ys:Els} {asx:List Nat} (hs:Qgi rs sz (y'.ev tm)=some (ys,asx)) {pre post:Els} {rs':Rs} {r0:Option Nat} (hb:QeK rs sz (x'.ev tm)=some (pre,post,rs',r0))
 (hbytes:(pre.length+ys.length) * by'≤140737488355328) (hra:∀ r∈asx,some r≠r0) {id:Nat} (hid:¬D id) (hid1:¬D (id+1)) (hD:∀ r,D r→D' r) (hid':D' id) (hid1':D' (id+1)) :
 ∃ v w' A',Qa8 P a o w v w'∧Qcc cx w0 D D' A rs w A' (up' (kill rs' asx) id (some ⟨true,sz,0,pre++ys++post.drop ys.length⟩)) w' ∧
  VR D' A' (up' (kill rs' asx) id (some ⟨true,sz,0,pre++ys++post.drop ys.length⟩)) w' (.slc id [] 0 sz 0 (pre.length+ys.length)) v:=by
 obtain ⟨vals,G,K,hE,hlen,hfc,hKa,hal,_⟩:=Qup (P:=P) hh T.pos (h.ev hy) hs
 have run:∀ {v w'}, (Builtin.append_ #[t,t2] o.type #[a.eval x,a.eval y]).run P w = .ok v w'→Qa8 P a o w v w':=fun hr=>by
  simp only [Qa8,execOp,ho,resolve,hcl,hca,hct,invoke,builtin,Sem.run_bind,Sem.run_pure,Result.andThen_ok,List.map_toArray,List.map_cons,List.map_nil,hr]
 have hv:=h.ev hx
 unfold QeK at hb
 split at hb
 ·rename_i sz' e1
  rw [e1] at hv
  injection hb with hb;injection hb with h1 hb;injection hb with h2 hb;injection hb with h3 h4
  subst h1;subst h2;subst h3
  have hva:=hv.nl
  obtain ⟨v',w',A',h5,h6,h7⟩:=QtT (D':=D') (ty:=o.type) hh hf hi T hE hlen hfc (by simpa using hbytes) hid hD hid'
  rw [←hva] at h5
  refine ⟨v',w',A',run h5, ?_, ?_⟩
  ·simpa using h6
  ·simpa using h7
 ·rename_i r q pv sz' off len e1
  rw [e1] at hv
  simp only [Option.bind_eq_some_iff] at hb
  obtain ⟨⟨R,s,ro,xs⟩,hl,hb⟩:=hb
  split at hb
  ·rename_i hc
   obtain ⟨rfl,rfl⟩:=hc
   obtain ⟨hr,harr⟩:=Qb0 hl
   have ha:=Qaj.arr_of harr
   obtain ⟨rfl,hoff,hv3⟩:s=sz'∧off+len≤xs.length∧True:=by
    obtain ⟨_,ad,cap,_,_,_,h5⟩:=hv.slc
    have:=(h5 R hr).2 s false xs harr
    exact ⟨this.1,this.2.1,trivial⟩
   split at hb
   ·rename_i hu
    have:=QiF hu
    subst this
    injection hb with hb;injection hb with h1 hb;injection hb with h2 hb;injection hb with h3 h4
    subst h1;subst h2;subst h3;subst h4
    rw [QaS hoff] at hbytes
    obtain ⟨v',w',A',h5,h6,h7⟩:=QkB (D':=D') (ty:=o.type) hh hf hi T hv.slc hl hE hlen hfc hKa (fun hm=>hra r hm rfl) hbytes hid hD hid'
    rw [QaS hoff,Qm7]
    exact ⟨v',w',A',run h5,h6,h7⟩
   ·rename_i q' i c hu
    have:=Qea hu
    subst this
    injection hb with hb;injection hb with h1 hb;injection hb with h2 hb;injection hb with h3 h4
    subst h1;subst h2;subst h3;subst h4
    rw [QaS hoff] at hbytes
    have hrne:r≠id+1:=fun e=>hid1 (e▸hi r R hr)
    obtain ⟨A1,st1,hA1,hA1'⟩:=Qgt (D':=fun x=>D x∨x=id+1) hh hf hi hr ha hid1 (fun x hx => .inl hx) (.inr rfl)
    have hrs1:∀ x,x≠r→x≠id+1→up' (up' rs r (some { R with pv:=R.pv,xs:=Qcb R.xs q' i c })) (id+1) (some ⟨true,s,0,xs⟩) x=rs x:=fun x h1 h2=>by rw [Qaz _ _ h2,Qaz _ _ h1]
    have hE1:=hE.mono (A':=A1) (rs':=up' (up' rs r (some { R with pv:=R.pv,xs:=Qcb R.xs q' i c })) (id+1) (some ⟨true,s,0,xs⟩)) fun x hx=>by
     obtain ⟨R1,hR1⟩:=hal x hx
     have h1:x≠r:=fun e=>hra x hx (by rw [e])
     have h2:x≠id+1:=fun e=>hid1 (e▸hi x R1 hR1)
     exact ⟨hrs1 x h1 h2,hA1 x h1 h2⟩
    have hpr:PR (fun x=>D x∨x=id+1) A1 (up' (up' rs r (some { R with pv:=R.pv,xs:=Qcb R.xs q' i c })) (id+1) (some ⟨true,s,0,xs⟩)) w (.slc (id+1) [] 0 s off len) (a.eval x):=by
     obtain ⟨_,ad,cap,g1,g2,g3,g4⟩:=hv.slc
     refine ⟨.inr rfl,ad,cap,g1,g2,g3,fun R' hR'=>⟨fun h=>absurd rfl h,fun s' ro' ys' ha' => ?_⟩⟩
     rw [Q6] at hR';injection hR' with hR';subst hR'
     simp only [Qaj.arr,Option.some.injEq,Prod.mk.injEq] at ha'
     obtain ⟨rfl,rfl,rfl⟩:=ha'
     obtain ⟨k1,k2,k3⟩:=(g4 R hr).2 s false xs harr
     refine ⟨rfl,k2, ?_⟩
     rcases k3 with k3|⟨b,oo,k3,k4,k5,k6⟩
     ·exact .inl k3
     ·refine .inr ⟨b,oo, ?_,k4,k5,k6⟩
      rw [hA1'];simpa [Gh.from'] using k3
    obtain ⟨v',w',A',h5,h6,h7⟩:=QkB (D':=D') (ty:=o.type) st1.heap st1.fr st1.ids T hpr (R:=⟨true,s,0,xs⟩) (s:=s) (xs:=xs) (by simp [QcV,Q6,Qaj.arr]) hE1 hlen hfc hKa
     (fun hm=>by obtain ⟨R1,hR1⟩:=hal _ hm;exact hid1 (hi _ R1 hR1)) hbytes (id:=id) (by rintro (h|h);exact hid h;omega) (fun x hx=>hx.elim (hD x) (fun e=>e▸hid1')) hid'
    ·have ek:up' (kill (up' (up' rs r (some { R with pv:=R.pv,xs:=Qcb R.xs q' i c })) (id+1) (some ⟨true,s,0,xs⟩)) ((id+1)::asx)) id (some ⟨true,s,0,wnd xs off len++ys++(xs.drop (off+len)).drop ys.length⟩) =
      up' (kill (up' rs r (some { R with pv:=R.pv,xs:=Qcb R.xs q' i c })) asx) id (some ⟨true,s,0,wnd xs off len++ys++(xs.drop (off+len)).drop ys.length⟩):=by
      funext x
      by_cases e1:x=id
      ·subst e1;rw [Q6,Q6]
      ·rw [Qaz _ _ e1,Qaz _ _ e1]
       by_cases e2:x=id+1
       ·subst e2
        have:rs (id+1)=none:=by
         cases e3:rs (id+1) with
         | none=>rfl
         | some R1=>exact absurd (hi _ R1 e3) hid1
        simp only [kill,List.mem_cons,true_or,if_true]
        rw [Qaz _ _ (Ne.symm hrne),this]
        exact (ite_self _).symm
       ·simp only [kill,List.mem_cons,e2,false_or]
        rw [Qaz _ _ e2]
     rw [ek] at h6 h7
     rw [QaS hoff]
     exact ⟨v',w',A',run h5,st1.trans h6 (fun x hx => .inl hx),h7⟩
  ·cases hb
 ·cases hb
theorem Qd8:∀ {xs:Els} {l:List UInt8}, Qca xs=some l→xs.length=l.length∧∀ i,i<xs.length→∃ n:Int,QW xs i 0=some (.i .u8 n)∧l[i]? = some (UInt8.ofNat n.toNat)
 | [],l,h=>by simp only [Qca,Option.some.injEq] at h;subst h;exact ⟨rfl,fun i hi=>by simp at hi⟩
 | el::xs,l,h=>by
  unfold Qca at h
  split at h
  ·rename_i e;cases e
  ·rename_i n xs' e
   injection e with e1 e2
   subst e1;subst e2
   simp only [Option.map_eq_some_iff] at h
   obtain ⟨l',h1,rfl⟩:=h
   obtain ⟨h2,h3⟩:=Qd8 h1
   refine ⟨by simp [h2],fun i hi => ?_⟩
   cases i with
   | zero=>exact ⟨n,by simp [QW],by simp⟩
   | succ i=>simpa [QW] using h3 i (by simpa using hi)
  ·cases h
theorem QsF (h:TR D A rs w tm a) (hh:HR cx w A rs) {s d e:Nat} {x:Operand} {x':X} (ho:o.op = .convert s d x) (hx:xOk x x'=true) (hs:P.underlying s=some (.slice e)) (he:P.underlying e=some (.int .u8)) (hd:P.underlying d=some .string)
 {r:Nat} {q:QaO} {pv off len:Nat} (e1:x'.ev tm = .slc r q pv 1 off len) {R:Qaj} {s1:Nat} {ro:Bool} {ys:Els} (hl:QcV rs r q pv=some (R,s1,ro,ys)) {l:List UInt8} (hb:Qca (wnd ys off len)=some l) :
 ∃ v,QaA P a o w v∧VR D A rs w (.s ⟨l.toArray⟩) v:=by
 have h1:=h.ev hx
 rw [e1] at h1
 obtain ⟨rfl,h6,hr,ha,vals,ad,cap,hv,h7,h8,h9,h10,h11,h12⟩:=Qer (P:=P) hh h1.slc hl
 obtain ⟨hbl,hbc⟩:=Qd8 hb
 rw [QaS h6] at hbl hbc
 refine ⟨.string ⟨l.toArray⟩, ?_,Qyd⟩
 have hcv:(convert s d (a.eval x)).run P w = .ok (.string ⟨l.toArray⟩) w:=by
  rw [hv]
  rcases h12 with ⟨rfl,_⟩|⟨b,oo,cur,_,rfl,hbk,_,_,hcells,_⟩
  ·obtain rfl:len=0:=by omega
   have hl0:l=[]:=List.eq_nil_of_length_eq_zero hbl.symm
   subst hl0
   cases ad with
   | none=>exact run_convert_bytes_nil w s e hs he 0 0 d hd
   | some ad =>
    rw [run_convert_bytes_string w s d e _ 0 0 hs he hd]
    simp [Conv.bytesToString,loadCells,loadCellsFrom]
    rfl
  ·have hn:∀ i,i<len→∃ n:Int,QW (wnd ys off len) i 0=some (.i .u8 n)∧l[i]? = some (UInt8.ofNat n.toNat):=hbc
   let xs:List Int:=(List.range len).map fun i=>match QW (wnd ys off len) i 0 with|some (.i .u8 n)=>n|_=>0
   have hxl:xs.length=len:=by simp [xs]
   have hxi:∀ i,i<len→∀ n,QW (wnd ys off len) i 0=some (.i .u8 n)→xs[i]? = some n:=fun i hi n hc=>by
    simp only [xs,List.getElem?_map,List.getElem?_range hi,Option.map_some,hc]
   have hstr:strOfNums xs=⟨l.toArray⟩:=by
    have:xs.map (fun n=>UInt8.ofNat n.toNat)=l:=by
     apply List.ext_getElem?
     intro i
     by_cases hi:i<len
     ·obtain ⟨n,g1,g2⟩:=hn i hi
      rw [List.getElem?_map,hxi i hi n g1,g2];rfl
     ·rw [List.getElem?_eq_none (by simp [hxl];omega),List.getElem?_eq_none (by omega)]
    rw [strOfNums,this]
   rw [←hstr]
   refine run_convert_bytes_arg w s e hs he b (oo+off * 1) len cap xs hxl (fun i hi => ?_) d hd
   obtain ⟨n,g1,g2⟩:=hn i hi
   obtain ⟨_,g3⟩:=Qbp h6 g1
   obtain ⟨v,g4,_,g5⟩:=hcells _ _ _ g3
   simp only [QaR] at g5
   subst g5
   rw [Qhv hbk,show oo+off * 1+i=oo+(off+i) * 1+0 by omega,g4,List.getD_eq_getElem?_getD,hxi i hi n g1];rfl
 simp only [QaA,execOp,ho,Sem.run_bind,hcv,Result.andThen_ok,Sem.run_pure]
end
end Go.Proofs.YtallpjhkmcgpoaaGreat.V
end
section
namespace Go.Proofs.YtallpjhkmcgpoaaGreat.V
open Go
section
variable {P:Program} {D D':Nat→Prop} {A:Nat→Gh} {rs:Rs} {w:World} {cx:Cx} {w0:World} {tm:Tm} {a:Act} {o:Oper}
theorem HR.sub (hh:HR cx w A rs) {rs':Rs} (h:∀ r R,rs' r=some R→rs r=some R):HR cx w A rs' :=
 ⟨fun r R e=>hh.tree r R (h r R e),fun r R ρ b e=>hh.own r R ρ b (h r R e),fun r R ρ b e=>hh.sta r R ρ b (h r R e),fun r R ρ r' R' ρ' b e k e' k'=>hh.inj r R ρ r' R' ρ' b (h r R e) k (h r' R' e') k'⟩
theorem HR.world (hh:HR cx w A rs) {w':World} (hbig:∀ b n,Big w b n→Big w' b n) (hb:∀ r R f ρ b,rs r=some R→R.Key (A r) f ρ b→w'.heap[b]? = w.heap[b]?):HR cx w' A rs :=
 ⟨fun r R e=>(hh.tree r R e).mono hbig fun ρ f b k=>hb r R f ρ b e k,hh.own,hh.sta,hh.inj⟩
theorem HR.add (hh:HR cx w A rs) {id:Nat} {R0:Qaj} {B:Gh} (ht:Qbg w (!R0.own) R0.sz B R0.xs) (hown:∀ ρ b,R0.Key B false ρ b→cx.base≤b∨cx.O b) (hs:∀ ρ b,R0.Key B true ρ b→cx.S b)
 (hinj:∀ ρ ρ' b,R0.Key B false ρ b→R0.Key B false ρ' b→ρ=ρ') (hdis:∀ ρ b,R0.Key B false ρ b→∀ r R ρ',r≠id→rs r=some R→¬R.Key (A r) false ρ' b) :
 HR cx w (up' A id B) (up' rs id (some R0)):=by
 have at_id:∀ {r R}, r=id→up' rs id (some R0) r=some R→R=R0∧up' A id B r=B:=fun e h=>by
  subst e;rw [Q6] at h;injection h with h;exact ⟨h.symm,Q6 _ _ _⟩
 refine ⟨fun r R h => ?_,fun r R ρ b h k => ?_,fun r R ρ b h k => ?_,fun r R ρ r' R' ρ' b h k h' k' => ?_⟩
 ·by_cases e:r=id
  ·obtain ⟨rfl,e2⟩:=at_id e h;rw [e2];exact ht
  ·rw [Qaz _ _ e] at h;rw [Qaz _ _ e];exact hh.tree r R h
 ·by_cases e:r=id
  ·obtain ⟨rfl,e2⟩:=at_id e h;rw [e2] at k;exact hown ρ b k
  ·rw [Qaz _ _ e] at h k;exact hh.own r R ρ b h k
 ·by_cases e:r=id
  ·obtain ⟨rfl,e2⟩:=at_id e h;rw [e2] at k;exact hs ρ b k
  ·rw [Qaz _ _ e] at h k;exact hh.sta r R ρ b h k
 ·by_cases e:r=id
  ·obtain ⟨rfl,e2⟩:=at_id e h;rw [e2] at k
   by_cases e':r'=id
   ·obtain ⟨rfl,e3⟩:=at_id e' h';rw [e3] at k'
    exact ⟨e.trans e'.symm,hinj _ _ b k k'⟩
   ·rw [Qaz _ _ e'] at h' k'
    exact (hdis ρ b k r' R' ρ' e' h' k').elim
  ·rw [Qaz _ _ e] at h k
   by_cases e':r'=id
   ·obtain ⟨rfl,e3⟩:=at_id e' h';rw [e3] at k'
    exact (hdis ρ' b k' r R ρ e h k).elim
   ·rw [Qaz _ _ e'] at h' k'
    exact hh.inj _ _ _ _ _ _ b h k h' k'
end
def HC (w:World) (av:AV) (v:Value) (gs:List Gh):Prop :=
 match av with
 | .deep p bo sz xs=>∃ G,gs=[G]∧HdR w (G []) p bo sz xs.length v∧Qbg w bo sz G xs
 | .undef=>False
 | .nl _=>gs=[]∧v = .slice none 0 0
 | av=>gs=[]∧QaR w (fun _=>none) av v
def HCs (w:World):List AV→List Value→List Gh→Prop
 | [],vs,gs=>vs=[]∧gs=[]
 | c::cs,vs,gs=>∃ v vs' g1 g2,vs=v::vs'∧gs=g1++g2∧HC w c v g1∧HCs w cs vs' g2
def HV (w:World) (av:AV) (v:Value) (gs:List Gh):Prop :=
 match av with
 | .agg cs=>∃ a,v = .agg a∧HCs w cs a.toList gs
 | .fn f cs=>∃ a,v = .func (.func f) #[] a∧HCs w cs a.toList gs
 | av=>HC w av v gs
def HVs (w:World):List AV→List Value→List Gh→Prop
 | [],vs,gs=>vs=[]∧gs=[]
 | c::cs,vs,gs=>∃ v vs' g1 g2,vs=v::vs'∧gs=g1++g2∧HV w c v g1∧HVs w cs vs' g2
def RG (w:World) (rts:List Qaj) (gs:List Gh):Prop:=rts.length=gs.length∧∀ (k:Nat) R,rts[k]? = some R→∃ G,gs[k]? = some G∧Qbg w (!R.own) R.sz G R.xs
theorem RG.nil {w:World} : RG w [] []:=⟨rfl,fun k R h=>by simp at h⟩
theorem RG.app {w:World} {r1 r2:List Qaj} {g1 g2:List Gh} (h1:RG w r1 g1) (h2:RG w r2 g2):RG w (r1++r2) (g1++g2) :=
 ⟨by simp [h1.1,h2.1],fun k R h=>by
  by_cases hk:k<r1.length
  ·rw [List.getElem?_append_left hk] at h
   obtain ⟨G,e1,e2⟩:=h1.2 k R h
   exact ⟨G,by rw [List.getElem?_append_left (h1.1▸hk)];exact e1,e2⟩
  ·rw [List.getElem?_append_right (by omega)] at h
   obtain ⟨G,e1,e2⟩:=h2.2 _ R h
   exact ⟨G,by rw [List.getElem?_append_right (by have:=h1.1;omega), ←h1.1];exact e1,e2⟩⟩
def Qov (D:Nat→Prop) (A:Nat→Gh) (rs:Rs) (n:Nat) (rts:List Qaj) (gs:List Gh):Prop:=∀ (k:Nat) R G,rts[k]? = some R→gs[k]? = some G→rs (n+k)=some R∧A (n+k)=G∧D (n+k)
theorem Qov.left {D:Nat→Prop} {A:Nat→Gh} {rs:Rs} {n:Nat} {r1 r2:List Qaj} {g1 g2:List Gh} (h:Qov D A rs n (r1++r2) (g1++g2)):Qov D A rs n r1 g1:=fun k R G h1 h2 =>
 h k R G (by rw [List.getElem?_append_left (List.getElem?_eq_some_iff.1 h1).1];exact h1) (by rw [List.getElem?_append_left (List.getElem?_eq_some_iff.1 h2).1];exact h2)
theorem Qov.right {D:Nat→Prop} {A:Nat→Gh} {rs:Rs} {n:Nat} {r1 r2:List Qaj} {g1 g2:List Gh} (h:Qov D A rs n (r1++r2) (g1++g2)) (hl:r1.length=g1.length):Qov D A rs (n+r1.length) r2 g2:=fun k R G h1 h2=>by
 have:=h (r1.length+k) R G (by rw [List.getElem?_append_right (by omega)];simpa using h1) (by rw [List.getElem?_append_right (by omega),hl];simpa using h2)
 rwa [←Nat.add_assoc] at this
section
variable {w:World}
theorem Qil {av:AV} {v:Value} {gs:List Gh} (h:HC w av v gs) (n:Nat):RG w (QcL av n).2 gs∧∀ {D A rs}, Qov D A rs n (QcL av n).2 gs→PR D A rs w (QcL av n).1 v:=by
 cases av with
 | deep p bo sz xs =>
  obtain ⟨G,rfl,h1,h2⟩:=h
  refine ⟨⟨rfl,fun k R hk => ?_⟩,fun {D A rs} hl => ?_⟩
  ·cases k with
   | zero=>simp only [QcL,List.getElem?_cons_zero,Option.some.injEq] at hk;subst hk;exact ⟨G,rfl,by simpa using h2⟩
   | succ k=>simp [QcL] at hk
  ·obtain ⟨e1,e2,e3⟩:=hl 0 ⟨!bo,sz,0,xs⟩ G rfl rfl
   simp only [Nat.add_zero] at e1 e2 e3
   have arr:∀ R',rs n=some R'→∀ s ro ys,R'.arr [] 0=some (s,ro,ys)→s=sz∧ys=xs∧ro=bo:=fun R' h s ro ys ha=>by
    rw [e1] at h;injection h with h;subst h
    simp only [Qaj.arr,Option.some.injEq,Prod.mk.injEq] at ha
    exact ⟨ha.1.symm,ha.2.2.symm,by rw [←ha.2.1,Bool.not_not]⟩
   cases p with
   | false =>
    simp only [QcL,Bool.false_eq_true,if_false,PR]
    cases eG:G [] with
    | none =>
     rw [eG] at h1
     obtain ⟨h3,x,h4⟩:=h1
     refine ⟨e3,x,0,by rw [h3];exact h4,by omega,(fun _=>rfl),fun R' hR'=>⟨fun h=>absurd rfl h,fun s ro ys ha => ?_⟩⟩
     obtain ⟨rfl,rfl,rfl⟩:=arr R' hR' s ro ys ha
     exact ⟨rfl,by omega, .inl ⟨rfl,by omega⟩⟩
    | some y =>
     obtain ⟨b,oo⟩:=y
     rw [eG] at h1
     obtain ⟨cap,h3,h4,h5⟩:=h1
     refine ⟨e3,_,cap,h3,h4,(fun h=>by cases h),fun R' hR'=>⟨fun h=>absurd rfl h,fun s ro ys ha => ?_⟩⟩
     obtain ⟨rfl,rfl,rfl⟩:=arr R' hR' s ro ys ha
     exact ⟨rfl,by omega, .inr ⟨b,oo,by rw [e2];exact eG,by simp,by rw [Nat.zero_add];exact h5,by omega⟩⟩
   | true =>
    simp only [QcL,if_true,PR]
    cases eG:G [] with
    | none=>rw [eG] at h1;exact h1.elim
    | some y =>
     obtain ⟨b,oo⟩:=y
     rw [eG] at h1
     exact ⟨e3,_,h1.1,fun R' hR'=>⟨fun h=>absurd rfl h,fun s ro ys ha el hel=>⟨b,oo,by rw [e2];exact eG,by simp⟩⟩⟩
 | undef=>exact h.elim
 | b x=>obtain ⟨rfl,h1⟩:=h;exact ⟨RG.nil,fun _=>by simpa only [QcL,PR,QaR] using h1⟩
 | i k m=>obtain ⟨rfl,h1⟩:=h;exact ⟨RG.nil,fun _=>by simpa only [QcL,PR,QaR] using h1⟩
 | s x=>obtain ⟨rfl,h1⟩:=h;exact ⟨RG.nil,fun _=>by simpa only [QcL,PR,QaR] using h1⟩
 | mb=>obtain ⟨rfl,h1⟩:=h;simp only [QaR] at h1
 | nl sz=>obtain ⟨rfl,rfl⟩:=h;exact ⟨RG.nil,fun _=>by simp only [QcL,PR]⟩
 | fn f cs=>obtain ⟨rfl,h1⟩:=h;simp only [QaR] at h1
 | agg cs=>obtain ⟨rfl,h1⟩:=h;simp only [QaR] at h1
 | tup vs=>obtain ⟨rfl,h1⟩:=h;simp only [QaR] at h1
 | slc=>obtain ⟨rfl,h1⟩:=h;simp only [QaR] at h1
 | ptr=>obtain ⟨rfl,h1⟩:=h;simp only [QaR] at h1
 | vp=>obtain ⟨rfl,h1⟩:=h;simp only [QaR] at h1
 | bx=>obtain ⟨rfl,h1⟩:=h;simp only [QaR] at h1
 | cv=>obtain ⟨rfl,h1⟩:=h;simp only [QaR] at h1
theorem Qe2:∀ {cs:List AV} {vs:List Value} {gs:List Gh}, HCs w cs vs gs→∀ n:Nat,RG w (Qba cs n).2 gs∧∀ {D A rs}, Qov D A rs n (Qba cs n).2 gs→Pw (PR D A rs w) (Qba cs n).1 vs
 | [],vs,gs,h,n=>by obtain ⟨rfl,rfl⟩:=h;exact ⟨RG.nil,fun _=>Pw.nil⟩
 | c::cs,vs,gs,h,n=>by
  obtain ⟨v,vs',g1,g2,rfl,rfl,h1,h2⟩:=h
  obtain ⟨a1,a2⟩:=Qil h1 n
  obtain ⟨b1,b2⟩:=Qe2 h2 (n+(QcL c n).2.length)
  refine ⟨RG.app a1 b1,fun hl=>Pw.cons (a2 hl.left) (b2 (hl.right a1.1))⟩
theorem QnM {av:AV} {v:Value} {gs:List Gh} (h:HV w av v gs) (n:Nat):RG w (QeF av n).2 gs∧∀ {D A rs}, Qov D A rs n (QeF av n).2 gs→V1 D A rs w (QeF av n).1 v:=by
 unfold HV at h
 split at h
 ·obtain ⟨c,rfl,h1⟩:=h
  obtain ⟨a1,a2⟩:=Qe2 h1 n
  exact ⟨a1,fun hl=>by simp only [QeF,V1];exact ⟨_,rfl,a2 hl⟩⟩
 ·obtain ⟨c,rfl,h1⟩:=h
  obtain ⟨a1,a2⟩:=Qe2 h1 n
  exact ⟨a1,fun hl=>by simp only [QeF,V1];exact ⟨_,rfl,a2 hl⟩⟩
 ·rename_i n1 n2
  have e:QeF av n=QcL av n:=by cases av <;> first|rfl|exact absurd rfl (n1 _)|exact absurd rfl (n2 _ _)
  rw [e]
  obtain ⟨a1,a2⟩:=Qil h n
  exact ⟨a1,fun hl=>(a2 hl).v1⟩
theorem Qdp:∀ {cs:List AV} {vs:List Value} {gs:List Gh}, HVs w cs vs gs→∀ n:Nat,RG w (Qam cs n).2 gs∧∀ {D A rs}, Qov D A rs n (Qam cs n).2 gs→Pw (V1 D A rs w) (Qam cs n).1 vs
 | [],vs,gs,h,n=>by obtain ⟨rfl,rfl⟩:=h;exact ⟨RG.nil,fun _=>Pw.nil⟩
 | c::cs,vs,gs,h,n=>by
  obtain ⟨v,vs',g1,g2,rfl,rfl,h1,h2⟩:=h
  obtain ⟨a1,a2⟩:=QnM h1 n
  obtain ⟨b1,b2⟩:=Qdp h2 (n+(QeF c n).2.length)
  refine ⟨RG.app a1 b1,fun hl=>Pw.cons (a2 hl.left) (b2 (hl.right a1.1))⟩
end
end Go.Proofs.YtallpjhkmcgpoaaGreat.V
end
section
namespace Go.Proofs.YtallpjhkmcgpoaaGreat.V
open Go
def Qft:AV→List Qaj
 | .deep p bo sz xs=>[⟨!bo,sz,0,xs⟩]
 | _=>[]
def Qlm:AV→List Qaj
 | .agg cs=>cs.flatMap Qft
 | .fn f cs=>cs.flatMap Qft
 | v=>Qft v
def QaJ (vs:List AV):List Qaj:=vs.flatMap Qlm
theorem QgO (v:AV) (n:Nat):(QcL v n).2=Qft v:=by cases v <;> rfl
theorem Qf4:∀ (vs:List AV) (n:Nat),(Qba vs n).2=vs.flatMap Qft
 | [],n=>rfl
 | v::vs,n=>by simp only [Qba,QgO,Qf4 vs,List.flatMap_cons]
theorem Qla (v:AV) (n:Nat):(QeF v n).2=Qlm v:=by
 cases v <;> first|exact QgO _ n|exact Qf4 _ n
theorem QdB:∀ (vs:List AV) (n:Nat),(Qam vs n).2=QaJ vs
 | [],n=>rfl
 | v::vs,n=>by simp only [Qam,Qla,QdB vs,QaJ,List.flatMap_cons]
structure Qgo (cx:Cx) (A:Nat→Gh) (rs:Rs) (rts:List Qaj) (gs:List Gh) (al:List (List Nat)):Prop where
 len1:rts.length=gs.length
 len2:rts.length=al.length
 own:∀ (k:Nat) R G l ρ b,rts[k]? = some R→gs[k]? = some G→al[k]? = some l→R.Key G false ρ b→∃ r Rr ρ',r∈l∧rs r=some Rr∧Rr.Key (A r) false ρ' b
 inj:∀ (k:Nat) R G ρ ρ' b,rts[k]? = some R→gs[k]? = some G→R.Key G false ρ b→R.Key G false ρ' b→ρ=ρ'
 sta:∀ (k:Nat) R G ρ b,rts[k]? = some R→gs[k]? = some G→R.Key G true ρ b→cx.S b
section
variable {P:Program} {D D':Nat→Prop} {A:Nat→Gh} {rs:Rs} {w:World} {cx:Cx} {w0:World}
theorem Qgo.nil:Qgo cx A rs [] [] []:=⟨rfl,rfl,fun k R G l ρ b h=>by simp at h,fun k R G ρ ρ' b h=>by simp at h,fun k R G ρ b h=>by simp at h⟩
theorem Qgo.app {r1 r2:List Qaj} {g1 g2:List Gh} {a1 a2:List (List Nat)} (h1:Qgo cx A rs r1 g1 a1) (h2:Qgo cx A rs r2 g2 a2):Qgo cx A rs (r1++r2) (g1++g2) (a1++a2):=by
 have left:∀ {α:Type} {x y:List α} {k:Nat} {z:α}, k<x.length→(x++y)[k]? = some z→x[k]? = some z:=fun hk h=>by rwa [List.getElem?_append_left hk] at h
 have right:∀ {α:Type} {x y:List α} {k:Nat} {z:α}, ¬k<x.length→(x++y)[k]? = some z→y[k-x.length]? = some z:=fun hk h=>by rwa [List.getElem?_append_right (by omega)] at h
 have l1:=h1.len1
 have l2:=h1.len2
 refine ⟨by simp [l1,h2.len1],by simp [l2,h2.len2],fun k R G l ρ b e1 e2 e3 => ?_,fun k R G ρ ρ' b e1 e2 => ?_,fun k R G ρ b e1 e2 => ?_⟩ <;> by_cases hk:k<r1.length
 ·exact h1.own k R G l ρ b (left hk e1) (left (l1▸hk) e2) (left (l2▸hk) e3)
 ·exact h2.own _ R G l ρ b (right hk e1) (by rw [l1];exact right (l1▸hk) e2) (by rw [l2];exact right (l2▸hk) e3)
 ·exact h1.inj k R G ρ ρ' b (left hk e1) (left (l1▸hk) e2)
 ·exact h2.inj _ R G ρ ρ' b (right hk e1) (by rw [l1];exact right (l1▸hk) e2)
 ·exact h1.sta k R G ρ b (left hk e1) (left (l1▸hk) e2)
 ·exact h2.sta _ R G ρ b (right hk e1) (by rw [l1];exact right (l1▸hk) e2)
theorem Qgo.one {R:Qaj} {G:Gh} {l:List Nat} (h1:∀ ρ b,R.Key G false ρ b→∃ r Rr ρ',r∈l∧rs r=some Rr∧Rr.Key (A r) false ρ' b) (h2:∀ ρ ρ' b,R.Key G false ρ b→R.Key G false ρ' b→ρ=ρ') (h3:∀ ρ b,R.Key G true ρ b→cx.S b) :
 Qgo cx A rs [R] [G] [l]:=by
 have hz:∀ {α:Type} {x y:α} {k:Nat}, [x][k]? = some y→x=y:=fun {α x y k} h=>by cases k <;> simp at h;exact h
 refine ⟨rfl,rfl,fun k R' G' l' ρ b e1 e2 e3 => ?_,fun k R' G' ρ ρ' b e1 e2 => ?_,fun k R' G' ρ b e1 e2 => ?_⟩
 ·rw [←hz e1, ←hz e2, ←hz e3];exact h1 ρ b
 ·rw [←hz e1, ←hz e2];exact h2 ρ ρ' b
 ·rw [←hz e1, ←hz e2];exact h3 ρ b
theorem Qmi (hh:HR cx w A rs) {av:AV} {v:Value} (h:PR D A rs w av v) {c:AV} {asx:List Nat} (ho:QhE rs av=some (c,asx)) :
 ∃ gs al,HC w c v gs∧Qgo cx A rs (Qft c) gs al∧asx=al.flatten:=by
 have plain:∀ {c}, (∀ p bo sz xs,c ≠ .deep p bo sz xs)→c ≠ .undef→QaR w (fun _=>none) c v→asx=[]→∃ gs al,HC w c v gs∧Qgo cx A rs (Qft c) gs al∧asx=al.flatten:=fun {c} h1 h2 h3 h4=>by
  refine ⟨[],[], ?_, ?_,h4⟩
  ·cases c <;> first|exact absurd rfl (h1 _ _ _ _)|exact absurd rfl h2|exact ⟨rfl,h3⟩|(simp only [QaR] at h3)
  ·have:Qft c=[]:=by cases c <;> first|rfl|exact absurd rfl (h1 _ _ _ _)
   rw [this];exact Qgo.nil
 unfold QhE at ho
 split at ho
 ·injection ho with ho;injection ho with e1 e2;subst e1;subst e2
  exact plain (by intros;simp) (by simp) (by simpa only [PR,QaR] using h) rfl
 ·injection ho with ho;injection ho with e1 e2;subst e1;subst e2
  exact plain (by intros;simp) (by simp) (by simpa only [PR,QaR] using h) rfl
 ·injection ho with ho;injection ho with e1 e2;subst e1;subst e2
  exact plain (by intros;simp) (by simp) (by simpa only [PR,QaR] using h) rfl
 ·rename_i sz
  injection ho with ho;injection ho with e1 e2;subst e1;subst e2
  simp only [PR] at h;subst h
  have hk:∀ {f ρ b}, ¬Qaj.Key ⟨true,sz,0,[]⟩ (fun _=>none) f ρ b:=fun ⟨s,ys,o,_,h⟩=>by cases h
  exact ⟨[fun _=>none],[[]],⟨_,rfl,⟨rfl,none,rfl⟩,Qbg.mk' ⟨fun i el he=>by simp at he,rfl⟩ (fun i c p bo sz' zs hc=>by simp [QW] at hc)⟩,
   Qgo.one (fun ρ b k=>absurd k hk) (fun ρ ρ' b k=>absurd k hk) (fun ρ b k=>absurd k hk),rfl⟩
 ·rename_i r q pv sz off len
  simp only [Option.bind_eq_some_iff] at ho
  obtain ⟨⟨R,s,ro,ys⟩,hl,ho⟩:=ho
  obtain ⟨G,h1,h2,h3,h4,rfl,h6⟩:=QiI hh h hl
  obtain ⟨hr,ha⟩:=Qb0 hl
  cases ro with
  | true =>
   simp only [if_true,Option.some.injEq,Prod.mk.injEq] at ho
   obtain ⟨rfl,rfl⟩:=ho
   have no:∀ {ρ b}, ¬Qaj.Key ⟨!true,s,0,wnd ys off len⟩ G false ρ b:=fun ⟨s',zs,o,h9,h10⟩=>by
    have:=Qcv _ h9;cases this
   refine ⟨[G],[[]],⟨G,rfl,h1,h3⟩,Qgo.one (fun ρ b k=>absurd k no) (fun ρ ρ' b k=>absurd k no) (fun ρ b k=>hh.sta r R _ b hr (h6 _ _ _ k)),rfl⟩
  | false =>
   simp only [Bool.false_eq_true,if_false,Option.some.injEq,Prod.mk.injEq] at ho
   obtain ⟨rfl,rfl⟩:=ho
   refine ⟨[G],[[r]],⟨G,rfl,h1,h3⟩,Qgo.one (fun ρ b k=>⟨r,R,_,by simp,hr,h6 _ _ _ k⟩) (fun ρ ρ' b k k' => ?_) (fun ρ b k=>hh.sta r R _ b hr (h6 _ _ _ k)),rfl⟩
   have:=(hh.inj r R _ r R _ b hr (h6 _ _ _ k) hr (h6 _ _ _ k')).2
   exact Qjj (List.append_cancel_left this)
 ·rename_i r q pv
  simp only [Option.bind_eq_some_iff] at ho
  obtain ⟨⟨R,s,ro,ys⟩,hl,ho⟩:=ho
  obtain ⟨hr,ha⟩:=Qb0 hl
  split at ho
  ·rename_i hlen
   have hpath:=Qaj.arr_of ha
   have ht:=hh.arr hr hpath
   have hl0:0<ys.length:=by rw [hlen];exact Nat.one_pos
   obtain ⟨el,hel⟩:∃ el,ys[0]? = some el:=⟨ys[0]'hl0,List.getElem?_eq_getElem hl0⟩
   obtain ⟨hD,ad,rfl,h3⟩:=h
   obtain ⟨b,oo,h4,h5⟩:=(h3 R hr).2 s ro ys ha el hel
   have hG:(A r).from' q []=some (b,oo):=by simpa [Gh.from'] using h4
   have hH:∀ bo,HdR w ((A r).from' q []) true bo s ys.length (.pointer (some ad)):=fun bo=>by
    rw [hG];exact ⟨by rw [h5];simp,hlen⟩
   have hkey:∀ {f ρ b}, V.Key s ro ((A r).from' q) ys f ρ b→R.Key (A r) f (q++ρ) b:=fun k=>V.Key.sub hpath k
   cases ro with
   | true =>
    simp only [if_true,Option.some.injEq,Prod.mk.injEq] at ho
    obtain ⟨rfl,rfl⟩:=ho
    have no:∀ {ρ b}, ¬Qaj.Key ⟨!true,s,0,ys⟩ ((A r).from' q) false ρ b:=fun ⟨s',zs,o,h9,h10⟩=>by
     have:=Qcv _ h9;cases this
    exact ⟨[(A r).from' q],[[]],⟨_,rfl,hH _,ht⟩,Qgo.one (fun ρ b k=>absurd k no) (fun ρ ρ' b k=>absurd k no) (fun ρ b k=>hh.sta r R _ b hr (hkey k)),rfl⟩
   | false =>
    simp only [Bool.false_eq_true,if_false,Option.some.injEq,Prod.mk.injEq] at ho
    obtain ⟨rfl,rfl⟩:=ho
    refine ⟨[(A r).from' q],[[r]],⟨_,rfl,hH _,ht⟩,Qgo.one (fun ρ b k=>⟨r,R,_,by simp,hr,hkey k⟩) (fun ρ ρ' b k k' => ?_) (fun ρ b k=>hh.sta r R _ b hr (hkey k)),rfl⟩
    exact List.append_cancel_left (hh.inj r R _ r R _ b hr (hkey k) hr (hkey k')).2
  ·cases ho
 ·cases ho
theorem Qmj {av c:AV} {asx:List Nat} (ho:QhE rs av=some (c,asx)):(∀ cs,c ≠ .agg cs)∧∀ f cs,c ≠ .fn f cs:=by
 unfold QhE at ho
 refine ⟨fun cs e => ?_,fun f cs e => ?_⟩ <;> subst e <;> split at ho <;> first
  | (cases ho;done)
  | (simp at ho;done)
  | (simp only [Option.bind_eq_some_iff] at ho;obtain ⟨⟨R,s,ro,ys⟩,_,ho⟩:=ho;(repeat' split at ho) <;> first|(cases ho;done)|(simp at ho;done))
theorem Qhb (hh:HR cx w A rs):∀ {cs:List AV} {vs:List Value}, Pw (PR D A rs w) cs vs→∀ {cs':List AV} {asx:List Nat}, Qgj rs cs=some (cs',asx) →
 ∃ gs al,HCs w cs' vs gs∧Qgo cx A rs (cs'.flatMap Qft) gs al∧asx=al.flatten
 | [],vs,h,cs',asx,ho=>by
  simp only [Qgj,Option.some.injEq,Prod.mk.injEq] at ho
  obtain ⟨rfl,rfl⟩:=ho
  rw [h.nil_inv]
  exact ⟨[],[],⟨rfl,rfl⟩,Qgo.nil,rfl⟩
 | c::cs,vs,h,cs',asx,ho=>by
  obtain ⟨v,vs',rfl,h1,h2⟩:=h.head
  simp only [Qgj,Option.bind_eq_some_iff,Option.map_eq_some_iff] at ho
  obtain ⟨⟨c',a1⟩,h3,⟨cs2,a2⟩,h4,h5⟩:=ho
  injection h5 with h5 h6;subst h5;subst h6
  obtain ⟨g1,l1,b1,b2,rfl⟩:=Qmi hh h1 h3
  obtain ⟨g2,l2,c1,c2,rfl⟩:=Qhb hh h2 h4
  exact ⟨g1++g2,l1++l2,⟨v,vs',g1,g2,rfl,rfl,b1,c1⟩,by rw [List.flatMap_cons];exact b2.app c2,by simp⟩
theorem QsW (hh:HR cx w A rs) {av:AV} {v:Value} (h:V1 D A rs w av v) {c:AV} {asx:List Nat} (ho:Qln rs av=some (c,asx)) :
 ∃ gs al,HV w c v gs∧Qgo cx A rs (Qlm c) gs al∧asx=al.flatten:=by
 unfold Qln at ho
 split at ho
 ·simp only [V1] at h
  obtain ⟨a,rfl,h1⟩:=h
  simp only [Option.map_eq_some_iff] at ho
  obtain ⟨⟨cs,u⟩,h2,h3⟩:=ho
  injection h3 with h3 h4;subst h3;subst h4
  obtain ⟨gs,al,b1,b2,b3⟩:=Qhb hh h1 h2
  exact ⟨gs,al,⟨a,rfl,b1⟩,b2,b3⟩
 ·simp only [V1] at h
  obtain ⟨a,rfl,h1⟩:=h
  simp only [Option.map_eq_some_iff] at ho
  obtain ⟨⟨cs,u⟩,h2,h3⟩:=ho
  injection h3 with h3 h4;subst h3;subst h4
  obtain ⟨gs,al,b1,b2,b3⟩:=Qhb hh h1 h2
  exact ⟨gs,al,⟨a,rfl,b1⟩,b2,b3⟩
 ·rename_i n1 n2
  have h':PR D A rs w av v:=by cases av <;> first|exact absurd rfl (n1 _)|exact absurd rfl (n2 _ _)|exact h
  obtain ⟨gs,al,b1,b2,b3⟩:=Qmi hh h' ho
  have hc:=Qmj ho
  refine ⟨gs,al, ?_, ?_,b3⟩
  ·cases c <;> first|exact absurd rfl (hc.1 _)|exact absurd rfl (hc.2 _ _)|exact b1
  ·cases c <;> first|exact absurd rfl (hc.1 _)|exact absurd rfl (hc.2 _ _)|exact b2
theorem QjF (hh:HR cx w A rs):∀ {cs:List AV} {vs:List Value}, Pw (V1 D A rs w) cs vs→∀ {cs':List AV} {asx:List Nat}, Qfp rs cs=some (cs',asx) →
 ∃ gs al,HVs w cs' vs gs∧Qgo cx A rs (QaJ cs') gs al∧asx=al.flatten
 | [],vs,h,cs',asx,ho=>by
  simp only [Qfp,Option.some.injEq,Prod.mk.injEq] at ho
  obtain ⟨rfl,rfl⟩:=ho
  rw [h.nil_inv]
  exact ⟨[],[],⟨rfl,rfl⟩,Qgo.nil,rfl⟩
 | c::cs,vs,h,cs',asx,ho=>by
  obtain ⟨v,vs',rfl,h1,h2⟩:=h.head
  simp only [Qfp,Option.bind_eq_some_iff,Option.map_eq_some_iff] at ho
  obtain ⟨⟨c',a1⟩,h3,⟨cs2,a2⟩,h4,h5⟩:=ho
  injection h5 with h5 h6;subst h5;subst h6
  obtain ⟨g1,l1,b1,b2,rfl⟩:=QsW hh h1 h3
  obtain ⟨g2,l2,c1,c2,rfl⟩:=QjF hh h2 h4
  exact ⟨g1++g2,l1++l2,⟨v,vs',g1,g2,rfl,rfl,b1,c1⟩,by simp only [QaJ,List.flatMap_cons];exact b2.app c2,by simp⟩
end
end Go.Proofs.YtallpjhkmcgpoaaGreat.V
end
section
namespace Go.Proofs.YtallpjhkmcgpoaaGreat.V
open Go
def Qf1 (P:Program) (fs:Array Field):Bool:=fs.toList.all fun f=>(P.info? f.type).isSome
def Qek (P:Program) (fs:Array Field):List (Nat×Operand)→List (Nat×Nat×X)→Bool
 | [],[]=>true
 | (j,x)::ps,(o,n,y)::qs=>xOk x y && (match fs[j]? with|some f=>f.offset == o && Qen P f.type n|none=>false) && Qek P fs ps qs
 | _,_=>false
theorem QoE {P:Program} {t n:Nat} (h:Qen P t n=true):(P.info? t).map (·.size)=some n:=by
 unfold Qen at h
 cases e:P.info? t with
 | none=>simp [e] at h
 | some i=>simp [e] at h;simp [h]
section
variable {P:Program} {D:Nat→Prop} {A:Nat→Gh} {rs:Rs} {w:World} {tm:Tm} {a:Act} {o:Oper}
theorem QgA:∀ (fs:List Field),(fs.all fun f=>(P.info? f.type).isSome)=true→∀ w:World,
 (fs.mapM fun f=>do pure (f.offset, ←sizeOf f.type):Sem (List (Nat×Nat))).run P w = .ok (fs.map fun f=>(f.offset,((P.info? f.type).map (·.size)).getD 0)) w
 | [],_,w=>by simp
 | f::fs,h,w=>by
  simp only [List.all_cons,Bool.and_eq_true] at h
  obtain ⟨i,hi⟩:=Option.isSome_iff_exists.1 h.1
  have ih:=QgA fs h.2
  have hs:(sizeOf f.type).run P w = .ok i.size w:=by simp only [sizeOf,Sem.run_bind,Qbf hi,Result.andThen_ok,Sem.run_pure]
  simp only [List.mapM_cons,Sem.run_bind,hs,Result.andThen_ok,Sem.run_pure,ih,List.map_cons,hi,Option.map_some,Option.getD_some]
theorem QiR {cs:List AV} {c:Array Value} (h:Pw (PR D A rs w) cs c.toList):∀ {vs:List AV} {us:List Value} (off:Nat),Pw (PR D A rs w) vs us→off+vs.length≤cs.length →
 Pw (PR D A rs w) (putCells cs off vs) ((us.zipIdx 0).foldl (fun cs (x:Value×Nat)=>cs.setIfInBounds (off+x.2) x.1) c).toList:=by
 intro vs us off hv hl
 have key:∀ {vs:List AV} {us:List Value} (s:Nat) {cs:List AV} {c:Array Value}, Pw (PR D A rs w) cs c.toList→Pw (PR D A rs w) vs us →
  Pw (PR D A rs w) (putCells cs (off+s) vs) ((us.zipIdx s).foldl (fun cs (x:Value×Nat)=>cs.setIfInBounds (off+x.2) x.1) c).toList:=by
  intro vs
  induction vs with
  | nil=>intro us s cs c h hv;rw [hv.nil_inv];exact h
  | cons v vs ih =>
   intro us s cs c h hv
   obtain ⟨u,us',rfl,h1,h2⟩:=hv.head
   simp only [putCells,List.zipIdx_cons,List.foldl_cons]
   have:=ih (s+1) (cs:=cs.set (off+s) v) (c:=c.setIfInBounds (off+s) u) (by rw [Array.toList_setIfInBounds];exact h.set h1 _) h2
   rw [←Nat.add_assoc] at this
   exact this
 simpa using key 0 h hv
theorem QgS (h:TR D A rs w tm a) {fs:Array Field} {pl:Array (Nat×Nat)} (hpl:∀ (j:Nat) f,fs[j]? = some f→pl[j]? = some (f.offset,((P.info? f.type).map (·.size)).getD 0)) :
 ∀ {ps:List (Nat×Operand)} {qs:List (Nat×Nat×X)}, Qek P fs ps qs=true→∀ {cs:List AV} {c:Array Value}, Pw (PR D A rs w) cs c.toList→∀ {r:List AV}, Qdq tm cs qs=some r →
 ∃ c',Instr.fill (pl[·]?) c (ps.map fun (i,x)=>(i,a.eval x))=some c'∧Pw (PR D A rs w) r c'.toList
 | [],[],_,cs,c,hc,r,hb=>by
  simp only [Qdq,Option.some.injEq] at hb;subst hb
  exact ⟨c,rfl,hc⟩
 | (j,x)::ps,(of,n,y)::qs,hk,cs,c,hc,r,hb=>by
  simp only [Qek,Bool.and_eq_true] at hk
  obtain ⟨⟨hx,hf⟩,hk⟩:=hk
  split at hf
  ·rename_i f hfj
   simp only [Bool.and_eq_true,beq_iff_eq] at hf
   obtain ⟨rfl,hsz⟩:=hf
   simp only [Qdq] at hb
   split at hb
   ·rename_i hl
    have hv:=h.ev hx
    have hcells:Pw (PR D A rs w) (y.ev tm).cells (a.eval x).cells.toList:=by
     refine hv.cells (fun f cs e => ?_) (fun vs e => ?_) (fun e => ?_) (fun cs c e => ?_) <;> (have:=hl.1;rw [e] at this;simp [Qh9] at this)
    have hsize:(a.eval x).cells.size=n:=by rw [←Array.length_toList, ←hcells.1];exact hl.2.1
    have hcl:c.size=cs.length:=by rw [←Array.length_toList];exact hc.1.symm
    have hput:=QiR hc f.offset hcells (by omega)
    obtain ⟨c',h1,h2⟩:=QgS h hpl hk (c:=(a.eval x).cells.zipIdx.foldl (fun cs (c,k)=>cs.setIfInBounds (f.offset+k) c) c) (by
     rw [←Array.foldl_toList,Array.toList_zipIdx];exact hput) hb
    refine ⟨c', ?_,h2⟩
    simp only [List.map_cons,Instr.fill,hpl j f hfj,QoE hsz,Option.getD_some]
    rw [if_neg]
    ·exact h1
    ·simp [hsize];omega
   ·cases hb
  ·cases hf
 | [],_::_,hk,_,_,_,_,_=>by simp [Qek] at hk
 | _::_,[],hk,_,_,_,_,_=>by simp [Qek] at hk
theorem Qpi {xs:List AV} {vs:List Value} (h:Qhh xs vs=true):Pw (PR D A rs w) xs vs:=Qhg h
theorem Qpg {α β:Type} (f:α→Sem β) (xs:Array α) (w:World):(xs.mapM f).run P w=((xs.toList.mapM f).run P w).andThen fun l w' => .ok l.toArray w':=by
 rw [Array.mapM_eq_mapM_toList]
 simp only [Sem.run_map]
theorem QlS (h:TR D A rs w tm a) {t:Nat} {fs:Array Field} {ps:Array (Nat×Operand)} {qs:List (Nat×Nat×X)} (ho:o.op = .build t ps) (ht:P.underlying t=some (.struct fs)) (hsz:Qf1 P fs=true)
 {zero:List AV} {z:Value} (hz:(P.info? t).bind (·.zero)=some z) (hzl:Qhh zero z.cells.toList=true) (hk:Qek P fs ps.toList qs=true) {r:List AV} (hb:Qdq tm zero qs=some r) :
 ∃ v,QaA P a o w v∧VR D A rs w (.agg r) v:=by
 have hpl:∀ (j:Nat) f,fs[j]? = some f→(fs.toList.map fun f=>(f.offset,((P.info? f.type).map (·.size)).getD 0)).toArray[j]? = some (f.offset,((P.info? f.type).map (·.size)).getD 0):=fun j f hj=>by
  rw [List.getElem?_toArray,List.getElem?_map,Array.getElem?_toList,hj];rfl
 obtain ⟨c',h1,h2⟩:=QgS (D:=D) (A:=A) (rs:=rs) (w:=w) h hpl hk (c:=z.cells) (Qpi hzl) hb
 refine ⟨.agg c', ?_,by simp only [VR,V1];exact ⟨c',rfl,h2⟩⟩
 simp only [Option.bind_eq_some_iff] at hz
 obtain ⟨i,hi,hz⟩:=hz
 have hzv:(zeroValue t).run P w = .ok z w:=by simp only [zeroValue,Sem.run_bind,Qbf hi,Result.andThen_ok,hz,Sem.run_pure]
 have hmap:(ps.map fun (i,x)=>(i,a.eval x)).toList=ps.toList.map fun (i,x)=>(i,a.eval x):=by simp
 simp only [QaA,execOp,ho,Instr.build,Sem.run_bind,hzv,Result.andThen_ok,QV ht,Qpg,QgA fs.toList hsz,hmap,h1,Sem.run_pure]
theorem Qjx (mx:Bool):∀ {x:AV} {u:Value} {xs:List AV} {us:List Value}, VR D A rs w x u→Pw (VR D A rs w) xs us→∀ {r:AV}, Qpd mx x xs=some r →
 ∃ v,(us.foldlM (if mx then Builtin.max2 else Builtin.min2) u:Sem Value).run P w = .ok v w∧VR D A rs w r v
 | x,u,[],us,hx,hp,r,hr=>by
  simp only [Qpd,Option.some.injEq] at hr;subst hr
  rw [hp.nil_inv]
  exact ⟨u,rfl,hx⟩
 | x,u,y::xs,us,hx,hp,r,hr=>by
  obtain ⟨u',us',rfl,h1,h2⟩:=hp.head
  unfold Qpd at hr
  split at hr
  ·rename_i e;cases e
  ·rename_i k n k' m rest e
   injection e with e1 e2;subst e1;subst e2
   split at hr
   ·rename_i hk;subst hk
    cases hx.int;cases h1.int
    have:=Qjx mx (x := .i k (if mx then (if m > n then m else n) else (if m<n then m else n))) (u := .int k (if mx then (if m > n then m else n) else (if m<n then m else n))) QhG h2 hr
    obtain ⟨v,h3,h4⟩:=this
    refine ⟨v, ?_,h4⟩
    cases mx
    ·simpa [List.foldlM_cons,Builtin.min2] using h3
    ·simpa [List.foldlM_cons,Builtin.max2] using h3
   ·cases hr
  ·cases hr
theorem QuW (h:TR D A rs w tm a) {cl:Call} {mx:Bool} {xs:List Operand} {x':X} {xs':List X} (ho:o.op = .call cl) (hcl:cl.callee = .builtin (if mx then .max else .min)) (hca:cl.args.toList=xs)
 (hx:Qlr xs (x'::xs')=true) {r:AV} (hr:Qpd mx (x'.ev tm) (xs'.map (·.ev tm))=some r):∃ v,QaA P a o w v∧VR D A rs w r v:=by
 have h1:=h.evs hx
 simp only [List.map_cons] at h1
 obtain ⟨u,us,e,h2,h3⟩:=h1.head
 obtain ⟨v,h4,h5⟩:=Qjx (P:=P) mx h2 h3 hr
 refine ⟨v, ?_,h5⟩
 have hargs:(cl.args.map a.eval).toList=u::us:=by rw [Array.toList_map,hca,e]
 cases mx
 ·simp only [QaA,execOp,ho,resolve,hcl,Bool.false_eq_true,if_false,invoke,builtin,Sem.run_bind,Sem.run_pure,Result.andThen_ok,Builtin.min_,hargs]
  simp only [Bool.false_eq_true,if_false] at h4
  rw [h4];rfl
 ·simp only [QaA,execOp,ho,resolve,hcl,if_true,invoke,builtin,Sem.run_bind,Sem.run_pure,Result.andThen_ok,Builtin.max_,hargs]
  simp only [if_true] at h4
  rw [h4];rfl
theorem Qik {d:Nat} : ∀ {fs:List Field} {k:Nat} {ks:List Nat} {x y:Array Value} {xs ys:List AV}, QeZ P fs k ks=true →
 (∀ (j:Nat) c,xs[j]? = some c→∃ v,x[k+j]? = some v∧PR D A rs w c v)→(∀ (j:Nat) c,ys[j]? = some c→∃ v,y[k+j]? = some v∧PR D A rs w c v)→∀ {r:Bool}, QbC ks xs ys=some r →
 (Op.eqFields (d+1) x y fs).run P w = .ok r w
 | [],k,ks,x,y,xs,ys,hf,hx,hy,r,he=>by
  cases ks with
  | cons=>simp [QeZ] at hf
  | nil =>
   cases xs with
   | cons=>simp [QbC] at he
   | nil =>
    cases ys with
    | cons=>simp [QbC] at he
    | nil=>simp only [QbC,Option.some.injEq] at he;subst he;simp [Op.eqFields]
 | f::fs,k,ks,x,y,xs,ys,hf,hx,hy,r,he=>by
  cases ks with
  | nil=>simp [QeZ] at hf
  | cons kd ks =>
   simp only [QeZ,Bool.and_eq_true,beq_iff_eq,bne_iff_ne,ne_eq] at hf
   obtain ⟨⟨⟨⟨hoff,hname⟩,hkd⟩,hagg⟩,hrest⟩:=hf
   have ih:∀ {xs ys r'}, (∀ (j:Nat) c,xs[j]? = some c→∃ v,x[k+1+j]? = some v∧PR D A rs w c v)→(∀ (j:Nat) c,ys[j]? = some c→∃ v,y[k+1+j]? = some v∧PR D A rs w c v)→QbC ks xs ys=some r' →
    (Op.eqFields (d+1) x y fs).run P w = .ok r' w:=fun hx hy he=>Qik hrest hx hy he
   have step:∀ {u v:Value} {b r':Bool}, x[k]? = some u→y[k]? = some v→(Op.equalIn (d+1) f.type u v).run P w = .ok b w→(Op.eqFields (d+1) x y fs).run P w = .ok r' w →
    (Op.eqFields (d+1) x y (f::fs)).run P w = .ok (b && r') w:=fun {u v b r'} h1 h2 h3 h4=>by
    have p1:(part f.type x f.offset).run P w = .ok u w:=by simp only [part,Sem.run_bind,QcS hagg,Result.andThen_ok,Bool.false_eq_true,if_false,hoff,h1,Sem.run_pure]
    have p2:(part f.type y f.offset).run P w = .ok v w:=by simp only [part,Sem.run_bind,QcS hagg,Result.andThen_ok,Bool.false_eq_true,if_false,hoff,h2,Sem.run_pure]
    simp only [Op.eqFields,ne_eq,hname,not_false_eq_true,if_true,Sem.run_bind,p1,p2,h3,Result.andThen_ok,Sem.run_ite]
    cases b
    ·simp
    ·simp [h4]
   have shift:∀ {zs:List AV} {z:AV} {a:Array Value}, (∀ (j:Nat) c,(z::zs)[j]? = some c→∃ v,a[k+j]? = some v∧PR D A rs w c v)→(∃ v,a[k]? = some v∧PR D A rs w z v)∧∀ (j:Nat) c,zs[j]? = some c→∃ v,a[k+1+j]? = some v∧PR D A rs w c v:=fun h =>
    ⟨by simpa using h 0 _ rfl,fun j c hj=>by have:=h (j+1) c (by simpa using hj);rwa [show k+(j+1)=k+1+j by omega] at this⟩
   unfold QbC at he
   split at he <;> try (cases he;done)
   ·contradiction
   ·rename_i ks' p xs' q ys' e1
    injection e1 with e1 e2;subst e1;subst e2
    simp only [Option.map_eq_some_iff] at he
    obtain ⟨r',he,rfl⟩:=he
    obtain ⟨⟨u,h1,h2⟩,h3⟩:=shift hx
    obtain ⟨⟨v,h4,h5⟩,h6⟩:=shift hy
    simp only [PR] at h2 h5;subst h2;subst h5
    have ht:P.underlying f.type=some .bool:=by unfold Qj0 at hkd;split at hkd <;> first|(cases hkd;done)|assumption|(rename_i e;cases e)
    have:=step h1 h4 (QeE d p q ht) (ih h3 h6 he)
    refine this.trans ?_
    by_cases e:p=q <;> simp [e]
   ·rename_i ks' ki p xs' kj q ys' e1
    injection e1 with e1 e2;subst e1;subst e2
    split at he
    ·rename_i hk;subst hk
     simp only [Option.map_eq_some_iff] at he
     obtain ⟨r',he,rfl⟩:=he
     obtain ⟨⟨u,h1,h2⟩,h3⟩:=shift hx
     obtain ⟨⟨v,h4,h5⟩,h6⟩:=shift hy
     simp only [PR] at h2 h5;subst h2;subst h5
     have ht:∃ kk,P.underlying f.type=some (.int kk):=by unfold Qj0 at hkd;split at hkd <;> first|(cases hkd;done)|exact ⟨_,by assumption⟩|(rename_i e;cases e)
     obtain ⟨kk,ht⟩:=ht
     have:=step h1 h4 (run_equalIn_int w d f.type ki kk p q ht) (ih h3 h6 he)
     refine this.trans ?_
     by_cases e:p=q <;> simp [e]
    ·cases he
   ·rename_i ks' p xs' q ys' e1
    injection e1 with e1 e2;subst e1;subst e2
    simp only [Option.map_eq_some_iff] at he
    obtain ⟨r',he,rfl⟩:=he
    obtain ⟨⟨u,h1,h2⟩,h3⟩:=shift hx
    obtain ⟨⟨v,h4,h5⟩,h6⟩:=shift hy
    simp only [PR] at h2 h5;subst h2;subst h5
    have ht:P.underlying f.type=some .string:=by unfold Qj0 at hkd;split at hkd <;> first|(cases hkd;done)|assumption|(rename_i e;cases e)
    have:=step h1 h4 (run_equalIn_string w d f.type p q ht) (ih h3 h6 he)
    rw [this,Qhy]
theorem QsD (h:TR D A rs w tm a) {t t':Nat} {neg:Bool} {ks:List Nat} {x y:Operand} {x' y':X} (ho:o.op = .binOp (if neg then .neq else .eql) t x y t') (hx:xOk x x'=true) (hy:xOk y y'=true)
 (hok:QeQ P t ks=true) {xs ys:List AV} (e1:x'.ev tm = .agg xs) (e2:y'.ev tm = .agg ys) {r:Bool} (he:QbC ks xs ys=some r):∃ v,QaA P a o w v∧VR D A rs w (.b (if neg then !r else r)) v:=by
 have h1:=h.ev hx
 have h2:=h.ev hy
 rw [e1] at h1;rw [e2] at h2
 obtain ⟨u,h3,h4⟩:=h1.agg
 obtain ⟨v,h5,h6⟩:=h2.agg
 unfold QeQ at hok
 split at hok
 ·rename_i fs ht
  simp only [Bool.and_eq_true,beq_iff_eq] at hok
  obtain ⟨⟨hk,hst⟩,hgd⟩:=hok
  have hfo:P.fieldsOf t=fs:=by simp [Program.fieldsOf,ht]
  have hf:=Qik (P:=P) (d:=9998) (x:=u) (y:=v) hk (fun j c hj=>by obtain ⟨z,g1,g2⟩:=h4.get hj;exact ⟨z,by rw [Array.getElem?_toList] at g1;simpa using g1,g2⟩)
   (fun j c hj=>by obtain ⟨z,g1,g2⟩:=h6.get hj;exact ⟨z,by rw [Array.getElem?_toList] at g1;simpa using g1,g2⟩) he
  have heq:(Op.equalIn 10000 t (.agg u) (.agg v)).run P w = .ok r w:=by
   have:=run_equalIn_struct (P:=P) w 9999 t u v (by rw [hfo];exact ht) hst
   rw [hfo] at this
   exact this.trans hf
  refine ⟨.bool (if neg then !r else r), ?_,QiC⟩
  have hg:∀ op,(eqGuard op t x y (.agg u) (.agg v)).run P w = .ok () w:=fun op=>run_eqGuard_agg w op t x y u v hgd
  cases neg
  ·simp only [QaA,execOp,ho,h3,h5,Bool.false_eq_true,if_false,Sem.run_bind,hg,Result.andThen_ok,run_eql_struct,heq,Sem.run_pure]
  ·simp only [QaA,execOp,ho,h3,h5,if_true,Sem.run_bind,hg,Result.andThen_ok,run_neq_struct,heq,Sem.run_pure]
 ·cases hok
end
end Go.Proofs.YtallpjhkmcgpoaaGreat.V
end
section
namespace Go.Proofs.YtallpjhkmcgpoaaGreat.V
open Go
def KOf (rts:List Qaj) (gs:List Gh) (f:Bool) (k:Nat) (ρ:QaO) (b:Nat):Prop:=∃ R G,rts[k]? = some R∧gs[k]? = some G∧R.Key G f ρ b
def KBk (rts:List Qaj) (gb:Nat→Gh) (back:List (Option Els)) (f:Bool) (k:Nat) (ρ:QaO) (b:Nat):Prop:=∃ R ys,rts[k]? = some R∧back[k]? = some (some ys)∧Qaj.Key ⟨true,R.sz,0,ys⟩ (gb k) f ρ b
def QdH:List Value→Value
 | [v]=>v
 | vs => .tuple vs.toArray
structure Qzh (S:Nat→Prop) (rts:List Qaj) (gs:List Gh) (w:World) (out:Out) (v:Value) (w':World) (vs:List Value) (gs':List Gh) (gb:Nat→Gh):Prop where
 val:v=QdH vs
 res:HVs w' out.1 vs gs'
 blen:out.2.length=rts.length
 back:∀ (k:Nat) R G ys,rts[k]? = some R→gs[k]? = some G→out.2[k]? = some (some ys)→R.own=true∧gb k []=G []∧ys.length=R.xs.length∧Qbg w' false R.sz (gb k) ys
 size:w.heap.size≤w'.heap.size
 block:∀ b,b<w.heap.size→(∀ k ρ,¬KOf rts gs false k ρ b)→w'.heap[b]? = w.heap[b]?
 big:∀ b n,Big w b n→Big w' b n
 os:w'.os=w.os
 tape:w'.tape=w.tape
 output:w'.output=w.output
 drawn:w.drawn≤w'.drawn
 rown:∀ k ρ b,KOf (QaJ out.1) gs' false k ρ b→w.heap.size≤b∨∃ k ρ,KOf rts gs false k ρ b
 rsta:∀ k ρ b,KOf (QaJ out.1) gs' true k ρ b→S b
 bown:∀ k ρ b,KBk rts gb out.2 false k ρ b→w.heap.size≤b∨∃ k ρ,KOf rts gs false k ρ b
 bsta:∀ k ρ b,KBk rts gb out.2 true k ρ b→S b
 rinj:∀ k ρ k' ρ' b,KOf (QaJ out.1) gs' false k ρ b→KOf (QaJ out.1) gs' false k' ρ' b→k=k'∧ρ=ρ'
 binj:∀ k ρ k' ρ' b,KBk rts gb out.2 false k ρ b→KBk rts gb out.2 false k' ρ' b→k=k'∧ρ=ρ'
 xinj:∀ k ρ k' ρ' b,KOf (QaJ out.1) gs' false k ρ b→¬KBk rts gb out.2 false k' ρ' b
def Ctr (P:Program) (f:Nat) (ds:List AV) (out:Out):Prop :=
 ∀ (w:World) (S:Nat→Prop) (args:List Value) (gs:List Gh),(∀ b,S b→b<w.heap.size)→HVs w ds args gs→(∀ k ρ b,KOf (QaJ ds) gs true k ρ b→S b)→(∀ k ρ b,KOf (QaJ ds) gs false k ρ b→¬S b) →
  (∀ k ρ k' ρ' b,KOf (QaJ ds) gs false k ρ b→KOf (QaJ ds) gs false k' ρ' b→k=k'∧ρ=ρ') →
  Calls P f args.toArray w fun e w'=>∃ v vs gs' gb,e = .returned v∧Qzh S (QaJ ds) gs w out v w' vs gs' gb
def QBK (cx:Cx) (A:Nat→Gh) (rs:Rs) (R:Qaj) (G:Gh) (u:Use):Prop :=
 u.own=R.own∧match u.at' with
 | none=>R.xs=[]∧G=fun _=>none
 | some (r,q)=>∃ Rr,rs r=some Rr ∧
  (u.own=true→q=[]∧Rr.own=true∧R.sz=Rr.sz∧R.xs=Rr.xs∧(G=A r∨(G=(fun _=>none)∧Rr.xs=[]))) ∧
  (u.own=false→(∀ ρ b,R.Key G true ρ b→∃ f ρ',Rr.Key (A r) f ρ' b)∧(u.ro=true→∀ ρ b,R.Key G true ρ b→cx.S b))
structure QfB (cx:Cx) (A:Nat→Gh) (rs:Rs) (rts:List Qaj) (gs:List Gh) (us:List Use):Prop where
 len1:rts.length=gs.length
 len2:rts.length=us.length
 at':∀ (k:Nat) R G u,rts[k]? = some R→gs[k]? = some G→us[k]? = some u→QBK cx A rs R G u
section
variable {P:Program} {D D':Nat→Prop} {A:Nat→Gh} {rs:Rs} {w:World} {cx:Cx} {w0:World}
theorem QfB.nil:QfB cx A rs [] [] []:=⟨rfl,rfl,fun k R G u h=>by simp at h⟩
theorem QfB.one {R:Qaj} {G:Gh} {u:Use} (h:QBK cx A rs R G u):QfB cx A rs [R] [G] [u] :=
 ⟨rfl,rfl,fun k R' G' u' e1 e2 e3=>by
  cases k with
  | zero=>simp only [List.getElem?_cons_zero,Option.some.injEq] at e1 e2 e3;subst e1;subst e2;subst e3;exact h
  | succ k=>simp at e1⟩
theorem QfB.app {r1 r2:List Qaj} {g1 g2:List Gh} {a1 a2:List Use} (h1:QfB cx A rs r1 g1 a1) (h2:QfB cx A rs r2 g2 a2):QfB cx A rs (r1++r2) (g1++g2) (a1++a2):=by
 have left:∀ {α:Type} {x y:List α} {k:Nat} {z:α}, k<x.length→(x++y)[k]? = some z→x[k]? = some z:=fun hk h=>by rwa [List.getElem?_append_left hk] at h
 have right:∀ {α:Type} {x y:List α} {k:Nat} {z:α}, ¬k<x.length→(x++y)[k]? = some z→y[k-x.length]? = some z:=fun hk h=>by rwa [List.getElem?_append_right (by omega)] at h
 have l1:=h1.len1
 have l2:=h1.len2
 refine ⟨by simp [l1,h2.len1],by simp [l2,h2.len2],fun k R G u e1 e2 e3 => ?_⟩
 by_cases hk:k<r1.length
 ·exact h1.at' k R G u (left hk e1) (left (l1▸hk) e2) (left (l2▸hk) e3)
 ·exact h2.at' _ R G u (right hk e1) (by rw [l1];exact right (l1▸hk) e2) (by rw [l2];exact right (l2▸hk) e3)
theorem Qs0 {sz:Nat} {xs:Els} {G:Gh} {ρ:QaO} {b pv:Nat} : ¬Qaj.Key ⟨false,sz,pv,xs⟩ G false ρ b:=fun ⟨s',zs,o,h9,h10⟩=>by
 have:=Qcv _ h9;cases this
theorem Qe9:∀ (q:QaO) {s:Nat} {ro:Bool} {xs:Els} {s':Nat} {ro':Bool} {ys:Els}, QaB s ro xs q=some (s',ro',ys)→∀ ro2,∃ ro2',QaB s ro2 xs q=some (s',ro2',ys)
 | [],s,ro,xs,s',ro',ys,h,ro2=>by
  simp only [QaB,Option.some.injEq,Prod.mk.injEq] at h ⊢
  exact ⟨ro2,h.1,rfl,h.2.2⟩
 | (i,c)::q,s,ro,xs,s',ro',ys,h,ro2=>by
  obtain ⟨p,bo,sz,zs,hc,h'⟩:=QaZ h
  obtain ⟨r,h2⟩:=Qe9 q h' (ro2 || bo)
  exact ⟨r,by simp only [QaB,hc];exact h2⟩
theorem Blk.weaken {b:Nat} {ro:Bool} {cur:Array Value} (h:Blk w b ro cur):Blk w b true cur:=by
 obtain ⟨e,fr,h1,_⟩:=h
 exact ⟨e,fr,h1,fun h=>by cases h⟩
theorem Qbg.weaken {ro:Bool} {sz:Nat} {B:Gh} {xs:Els} (h:Qbg w ro sz B xs):Qbg w true sz B xs:=fun q s ro' ys hq=>by
 obtain ⟨r,h1⟩:=Qe9 q hq ro
 have h2:=h q s r ys h1
 have h3:=Qcv q hq
 simp only at h3;subst h3
 refine ⟨h2.1, ?_⟩
 have h4:=h2.2
 cases e:B.from' q [] with
 | none=>rw [e] at h4;exact h4
 | some x =>
  obtain ⟨b,o⟩:=x
  rw [e] at h4
  obtain ⟨cur,h5,h6⟩:=h4
  exact ⟨cur,h5.weaken,h6⟩
theorem Key.weaken {sz:Nat} {B:Gh} {xs:Els} {f:Bool} {ρ:QaO} {b:Nat} (h:V.Key sz true B xs f ρ b) (ro2:Bool):∃ f',V.Key sz ro2 B xs f' ρ b:=by
 obtain ⟨s,ys,o,h1,h2⟩:=h
 obtain ⟨r,h3⟩:=Qe9 ρ h1 ro2
 exact ⟨r,s,ys,o,h3,h2⟩
theorem Qkq (hh:HR cx w A rs) {own:Bool} {av:AV} {v:Value} (h:PR D A rs w av v) {c:AV} {us:List Use} (hd:Qc9 rs own av=some (c,us)):∃ gs,HC w c v gs∧QfB cx A rs (Qft c) gs us:=by
 unfold Qc9 at hd
 split at hd
 ·injection hd with hd;injection hd with e1 e2;subst e1;subst e2
  exact ⟨[],⟨rfl,by simpa only [PR,QaR] using h⟩,QfB.nil⟩
 ·injection hd with hd;injection hd with e1 e2;subst e1;subst e2
  exact ⟨[],⟨rfl,by simpa only [PR,QaR] using h⟩,QfB.nil⟩
 ·injection hd with hd;injection hd with e1 e2;subst e1;subst e2
  exact ⟨[],⟨rfl,by simpa only [PR,QaR] using h⟩,QfB.nil⟩
 ·rename_i sz
  simp only [PR] at h;subst h
  split at hd <;> (injection hd with hd;injection hd with e1 e2;subst e1;subst e2)
  ·exact ⟨[],⟨rfl,rfl⟩,QfB.nil⟩
  exact ⟨[fun _=>none],⟨_,rfl,⟨rfl,none,rfl⟩,Qbg.mk' ⟨fun i el he=>by simp at he,rfl⟩ (fun i c p bo sz' zs hc=>by simp [QW] at hc)⟩,QfB.one ⟨by simp,rfl,rfl⟩⟩
 ·rename_i r q pv sz off len
  simp only [Option.bind_eq_some_iff] at hd
  obtain ⟨⟨R,s,ro,ys⟩,hl,hd⟩:=hd
  obtain ⟨hr,ha⟩:=Qb0 hl
  have hp:=Qaj.arr_of ha
  have ht:=hh.arr hr hp
  cases own with
  | true =>
   simp only [if_true] at hd
   split at hd
   ·rename_i hc
    obtain ⟨rfl,rfl,rfl,rfl⟩:=hc
    injection hd with hd;injection hd with e1 e2;subst e1;subst e2
    simp only [Qaj.arr,Option.some.injEq,Prod.mk.injEq,Bool.not_eq_false'] at ha
    obtain ⟨rfl,ho,rfl⟩:=ha
    obtain ⟨hD,ad,cap,rfl,h3,h4,h5⟩:=h
    obtain ⟨rfl,h6,h7⟩:=(h5 R hr).2 R.sz false R.xs (by simp [Qaj.arr,ho])
    rcases h7 with ⟨rfl,h8⟩|⟨b,oo,h8,h9,h10,h11⟩
    ·have h0:R.xs=[]:=List.eq_nil_of_length_eq_zero (by omega)
     refine ⟨[fun _=>none],⟨_,rfl,⟨by omega,ad, ?_⟩, ?_⟩,QfB.one ⟨by simp,R,hr,fun _=>⟨rfl,ho,rfl,rfl, .inr ⟨rfl,h0⟩⟩,fun h=>by cases h⟩⟩
     ·rw [h0];rfl
     ·rw [h0];exact Qbg.mk' ⟨fun i el he=>by simp at he,rfl⟩ (fun i c p bo sz' zs hc=>by simp [QW] at hc)
    ·refine ⟨[A r],⟨_,rfl, ?_, ?_⟩,QfB.one ⟨by simp,R,hr,fun _=>⟨rfl,ho,rfl,rfl, .inl rfl⟩,fun h=>by cases h⟩⟩
     ·rw [h8]
      exact ⟨cap,by rw [h9];simp,h3,by rw [Nat.zero_add] at h10;exact h10⟩
     ·have:=hh.tree r R hr
      rw [ho] at this;exact this
   ·cases hd
  | false =>
   simp only [Bool.false_eq_true,if_false] at hd
   injection hd with hd;injection hd with e1 e2;subst e1;subst e2
   obtain ⟨G,h1,h2,h3,h4,rfl,h6⟩:=QiI hh h hl
   refine ⟨[G],⟨G,rfl,HdR.lax h1,h3.weaken⟩,QfB.one ⟨by simp,R,hr,(fun h=>by cases h),fun _=>⟨fun ρ b k => ?_,fun hro ρ b k => ?_⟩⟩⟩
   ·obtain ⟨f',k'⟩:=Key.weaken k ro
    exact ⟨f',_,h6 _ _ _ k'⟩
   ·simp only at hro;subst hro
    exact hh.sta r R _ b hr (h6 _ _ _ k)
 ·rename_i r q pv
  simp only [Option.bind_eq_some_iff] at hd
  obtain ⟨⟨R,s,ro,ys⟩,hl,hd⟩:=hd
  obtain ⟨hr,ha⟩:=Qb0 hl
  have hp:=Qaj.arr_of ha
  have ht:=hh.arr hr hp
  split at hd
  ·rename_i hlen
   have hl0:0<ys.length:=by rw [hlen];exact Nat.one_pos
   obtain ⟨el,hel⟩:∃ el,ys[0]? = some el:=⟨ys[0]'hl0,List.getElem?_eq_getElem hl0⟩
   obtain ⟨hD,ad,rfl,h3⟩:=h
   obtain ⟨b,oo,h4,h5⟩:=(h3 R hr).2 s ro ys ha el hel
   have hG:(A r).from' q []=some (b,oo):=by simpa [Gh.from'] using h4
   have hH:∀ bo,HdR w ((A r).from' q []) true bo s ys.length (.pointer (some ad)):=fun bo=>by
    rw [hG];exact ⟨by rw [h5];simp,hlen⟩
   cases own with
   | true =>
    simp only [if_true] at hd
    split at hd
    ·rename_i hc
     obtain ⟨rfl,rfl⟩:=hc
     injection hd with hd;injection hd with e1 e2;subst e1;subst e2
     simp only [Qaj.arr,Option.some.injEq,Prod.mk.injEq,Bool.not_eq_false'] at ha
     obtain ⟨rfl,ho,rfl⟩:=ha
     exact ⟨[A r],⟨_,rfl,hH _,ht⟩,QfB.one ⟨by simp,R,hr,fun _=>⟨rfl,ho,rfl,rfl, .inl rfl⟩,fun h=>by cases h⟩⟩
    ·cases hd
   | false =>
    simp only [Bool.false_eq_true,if_false] at hd
    injection hd with hd;injection hd with e1 e2;subst e1;subst e2
    refine ⟨[(A r).from' q],⟨_,rfl,hH _,ht.weaken⟩,QfB.one ⟨by simp,R,hr,(fun h=>by cases h),fun _=>⟨fun ρ b k => ?_,fun hro ρ b k => ?_⟩⟩⟩
    ·obtain ⟨f',k'⟩:=Key.weaken k ro
     exact ⟨f',_,V.Key.sub hp k'⟩
    ·simp only at hro;subst hro
     exact hh.sta r R _ b hr (V.Key.sub hp k)
  ·cases hd
 ·cases hd
theorem Qf7 (hh:HR cx w A rs) {own:Bool} : ∀ {cs:List AV} {vs:List Value}, Pw (PR D A rs w) cs vs→∀ {cs':List AV} {us:List Use}, QdP rs own cs=some (cs',us) →
 ∃ gs,HCs w cs' vs gs∧QfB cx A rs (cs'.flatMap Qft) gs us
 | [],vs,h,cs',us,ho=>by
  simp only [QdP,Option.some.injEq,Prod.mk.injEq] at ho
  obtain ⟨rfl,rfl⟩:=ho
  rw [h.nil_inv]
  exact ⟨[],⟨rfl,rfl⟩,QfB.nil⟩
 | c::cs,vs,h,cs',us,ho=>by
  obtain ⟨v,vs',rfl,h1,h2⟩:=h.head
  simp only [QdP,Option.bind_eq_some_iff,Option.map_eq_some_iff] at ho
  obtain ⟨⟨c',a1⟩,h3,⟨cs2,a2⟩,h4,h5⟩:=ho
  injection h5 with h5 h6;subst h5;subst h6
  obtain ⟨g1,b1,b2⟩:=Qkq hh h1 h3
  obtain ⟨g2,c1,c2⟩:=Qf7 hh h2 h4
  exact ⟨g1++g2,⟨v,vs',g1,g2,rfl,rfl,b1,c1⟩,by rw [List.flatMap_cons];exact b2.app c2⟩
theorem Qli {own:Bool} {av c:AV} {us:List Use} (ho:Qc9 rs own av=some (c,us)):(∀ cs,c ≠ .agg cs)∧∀ f cs,c ≠ .fn f cs:=by
 unfold Qc9 at ho
 refine ⟨fun cs e => ?_,fun f cs e => ?_⟩ <;> subst e <;> split at ho <;> first
  | (cases ho;done)
  | (simp at ho;done)
  | (split at ho <;> simp at ho;done)
  | (simp only [Option.bind_eq_some_iff] at ho;obtain ⟨⟨R,s,ro,ys⟩,_,ho⟩:=ho;(repeat' split at ho) <;> first|(cases ho;done)|(simp at ho;done))
theorem QpV (hh:HR cx w A rs) {own:Bool} {av:AV} {v:Value} (h:VR D A rs w av v) {c:AV} {us:List Use} (ho:QeG rs own av=some (c,us)) :
 ∃ gs,HV w c v gs∧QfB cx A rs (Qlm c) gs us:=by
 unfold QeG at ho
 split at ho
 ·obtain ⟨a,rfl,h1⟩:=h.agg
  simp only [Option.map_eq_some_iff] at ho
  obtain ⟨⟨cs,u⟩,h2,h3⟩:=ho
  injection h3 with h3 h4;subst h3;subst h4
  obtain ⟨gs,b1,b2⟩:=Qf7 hh h1 h2
  exact ⟨gs,⟨a,rfl,b1⟩,b2⟩
 ·obtain ⟨a,rfl,h1⟩:=h.fn
  simp only [Option.map_eq_some_iff] at ho
  obtain ⟨⟨cs,u⟩,h2,h3⟩:=ho
  injection h3 with h3 h4;subst h3;subst h4
  obtain ⟨gs,b1,b2⟩:=Qf7 hh h1 h2
  exact ⟨gs,⟨a,rfl,b1⟩,b2⟩
 ·rename_i n1 n2
  have h':PR D A rs w av v:=by
   cases av <;> first
    | exact absurd rfl (n1 _)
    | exact absurd rfl (n2 _ _)
    | (simp only [Qc9] at ho;cases ho;done)
    | simpa only [VR,V1] using h
  obtain ⟨gs,b1,b2⟩:=Qkq hh h' ho
  have hc:=Qli ho
  refine ⟨gs, ?_, ?_⟩
  ·cases c <;> first|exact absurd rfl (hc.1 _)|exact absurd rfl (hc.2 _ _)|exact b1
  ·cases c <;> first|exact absurd rfl (hc.1 _)|exact absurd rfl (hc.2 _ _)|exact b2
theorem Qis (hh:HR cx w A rs):∀ {ms:List Bool} {cs:List AV} {vs:List Value}, Pw (VR D A rs w) cs vs→∀ {cs':List AV} {us:List Use}, QcY rs ms cs=some (cs',us) →
 ∃ gs,HVs w cs' vs gs∧QfB cx A rs (QaJ cs') gs us
 | ms,[],vs,h,cs',us,ho=>by
  simp only [QcY,Option.some.injEq,Prod.mk.injEq] at ho
  obtain ⟨rfl,rfl⟩:=ho
  rw [h.nil_inv]
  exact ⟨[],⟨rfl,rfl⟩,QfB.nil⟩
 | ms,c::cs,vs,h,cs',us,ho=>by
  obtain ⟨v,vs',rfl,h1,h2⟩:=h.head
  simp only [QcY,Option.bind_eq_some_iff,Option.map_eq_some_iff] at ho
  obtain ⟨⟨c',a1⟩,h3,⟨cs2,a2⟩,h4,h5⟩:=ho
  injection h5 with h5 h6;subst h5;subst h6
  obtain ⟨g1,b1,b2⟩:=QpV hh h1 h3
  obtain ⟨g2,c1,c2⟩:=Qis hh h2 h4
  exact ⟨g1++g2,⟨v,vs',g1,g2,rfl,rfl,b1,c1⟩,by simp only [QaJ,List.flatMap_cons];exact b2.app c2⟩
end
end Go.Proofs.YtallpjhkmcgpoaaGreat.V
end
