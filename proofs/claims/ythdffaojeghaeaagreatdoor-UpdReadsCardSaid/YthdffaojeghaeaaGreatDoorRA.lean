/-
  Paths and attributes as data.
  Paths (layer 19):what the program's functions and the document's find.
  Attributes (layer 20):what the program's functions and the document's find.
  Attributes (layer 20):what the program puts.
  Attributes (layer 20):what the program puts,and what the document does.
  Attributes (layer 20):what the document puts;the copies.
  Attributes (layer 20):copies.
  Attributes (layer 20):attributes with few members.
  The law:any attributes are put as the document says,or refused.
-/
import Derived.Test.YthdffaojeghaeaaGreatDoorED
import Derived.Test.YthdffaojeghaeaaGreatDoorQ
set_option linter.all false
section
namespace Go.Proofs.YthdffaojeghaeaaGreatDoor
open Go.Sh
abbrev Seg:=Bool×List UInt32
abbrev Raw:=Int×List UInt8
abbrev Zo:=Int×List Seg×UInt32×Bool×UInt32×Bool×UInt32×Bool×Bool×UInt32×UInt32×List UInt32×List Raw
abbrev Zo.origin (a:Zo):Int:=a.1
abbrev Zo.path (a:Zo):List Seg:=a.2.1
abbrev Zo.next (a:Zo):UInt32:=a.2.2.1
abbrev Zo.hasMed (a:Zo):Bool:=a.2.2.2.1
abbrev Zo.med (a:Zo):UInt32:=a.2.2.2.2.1
abbrev Zo.hasLocal (a:Zo):Bool:=a.2.2.2.2.2.1
abbrev Zo.loc (a:Zo):UInt32:=a.2.2.2.2.2.2.1
abbrev Zo.atomic (a:Zo):Bool:=a.2.2.2.2.2.2.2.1
abbrev Zo.hasMaker (a:Zo):Bool:=a.2.2.2.2.2.2.2.2.1
abbrev Zo.makerAS (a:Zo):UInt32:=a.2.2.2.2.2.2.2.2.2.1
abbrev Zo.maker (a:Zo):UInt32:=a.2.2.2.2.2.2.2.2.2.2.1
abbrev Zo.comms (a:Zo):List UInt32:=a.2.2.2.2.2.2.2.2.2.2.2.1
abbrev Zo.others (a:Zo):List Raw:=a.2.2.2.2.2.2.2.2.2.2.2.2
end Go.Proofs.YthdffaojeghaeaaGreatDoor
namespace Go.Proofs.YthdffaojeghaeaaGreatDoor
open Go.Sh
def cnt (p:List Seg):Nat:=(p.map (·.2.length)).sum
theorem Zqg (p:List Seg) (s:Seg):cnt (p++[s])=cnt p+s.2.length:=by simp [cnt]
theorem Zcra (p:List Seg) (K:Int->Prop) (hl:p.length <= 9223372036854775807) (hc:cnt p <= 9223372036854775807) (h:K (cnt p)):Zvr p K:=by
  unfold Zvr;refine Zk.list p (fun pre=>((cnt pre:Int),(pre.length:Int),())) (fun _=>True) rfl trivial (fun pre s post hp _ next hn=>?_) (fun _ next _=>?_)
  . intro _;dsimp only [Zbep];refine ifT (by simp [hp];omega) ⟨by omega,AtN.of (Zcf hp) fun _=>of_eq (hn trivial) ?_⟩
    have h1:p.length=pre.length+1+post.length:=by rw [hp];simp;omega
    have h2:cnt p=cnt pre+s.2.length+cnt post:=by rw [hp];simp [cnt];omega
    rw [Ze (by omega) (by omega),Ze (by omega) (by omega),Zqg]
    simp
  dsimp only [Zbep];exact ifF (by simp) h
theorem Zcsg (l:List UInt32) (v:Int) (K:Int->Prop) (hl:l.length <= 9223372036854775807) (h1: ∀i:Nat,(∃x∈l,(x.toNat:Int)=v)->K i) (h2:(∀x∈l,(x.toNat:Int)≠v)->K (-1)):Zxp l v K:=by
  unfold Zxp;refine Zk.list l (fun pre=>((pre.length:Int),())) (fun pre=>∀x∈pre,(x.toNat:Int)≠v) rfl (by simp) (fun pre x post hp hP next hn=>?_) (fun hP next _=>?_)
  . intro _;dsimp only [Zbfr];refine ifT (by simp [hp];omega) ⟨by omega,AtN.of (Zcf hp) fun _=>?_⟩
    refine IfB.intro (fun h=>?_) (fun h=>?_);exact h1 pre.length ⟨x,by simp [hp],by simpa using (by simpa using h:v=(x.toNat:Int)).symm⟩
    . have hne:v≠(x.toNat:Int):=by simpa using h
      refine of_eq (hn fun y hy=>?_) ?_;rcases List.mem_append.1 hy with hy | hy;exact hP y hy;simp only [List.mem_singleton] at hy;subst hy;exact fun e=>hne e.symm
      . have h1:l.length=pre.length+1+post.length:=by rw [hp];simp;omega
        rw [Ze (by omega) (by omega)]
        simp
  dsimp only [Zbfr];exact ifF (by simp) (h2 hP)
theorem Zchl (l:List UInt32) (v:Int) (K:Bool->Prop) (hl:l.length <= 9223372036854775807) (h:K (l.any fun x=>(x.toNat:Int)==v)):Zsu l v K:=by
  unfold Zsu;intro _;refine Zcsg l v _ hl (fun i hx _=>of_eq h ?_) (fun hx _=>of_eq h ?_)
  . obtain ⟨x,hx,hv⟩:=hx;rw [List.any_eq_true.2 ⟨x,hx,by simp [hv]⟩]
    simp
  . have:(l.any fun x=>(x.toNat:Int)==v)=false:=by rw [List.any_eq_false];intro x h;simpa using hx x h
    rw [this];rfl
theorem Zbgq (x:UInt32):(x !=0)= !((x.toNat:Int)==0):=by
  by_cases h:x=0;subst h;rfl
  . have:x.toNat≠0:=fun e=>h (UInt32.toNat_inj.1 e);have h2:((x.toNat:Int)==0)=false:=by simpa using this
    rw [h2];simp [h]
def Zel (s:Seg):Bool:=decide (0<s.2.length)&&decide (s.2.length <= 255)&&s.2.all fun x=>x !=0
theorem Zcpc (s:Seg) (K:Bool->Prop) (h:K (Zel s)):Zzp s K:=by
  unfold Zzp;refine IfB.intro (fun h1=>IfB.intro (fun h2=>?_) (fun h2=>of_eq h ?_)) (fun h1=>of_eq h ?_)
  . intro _;have h1:0<s.2.length:=by simpa using h1
    have h2:s.2.length <= 255:=by simp at h2;omega
    refine Zchl s.2 0 _ (by omega) (fun _=>of_eq h ?_)
    have e:(s.2.all fun x=>x !=0)= !(s.2.any fun x=>(x.toNat:Int)==0):=by rw [List.not_any_eq_all_not];congr 1;funext x;exact Zbgq x
    simp [Zel,h1,h2,e]
  . have: ¬s.2.length <= 255:=by simp at h2;omega
    simp [Zel,this]
  . have: ¬0<s.2.length:=by simp at h1;simp [h1]
    simp [Zel,this]
def Zbs (p:List Seg):Bool:=p.all Zel&&decide (cnt p <= 64)
def Ziq (b:Bool):Int:=if b then 0 else 2
theorem Zbob (p:List Seg) (K:Int->Prop) (hl:p.length <= 9223372036854775807) (hc:cnt p <= 9223372036854775807) (h:K (Ziq (Zbs p))):Zva p K:=by
  unfold Zva;refine Zk.over p (fun pre=>((pre.length:Int),())) (fun pre=>pre.all Zel=true) rfl rfl (fun pre s post hp hn hP next hx=>?_) (fun hP next _=>?_)
  . intro _;dsimp only [Zbfg];refine ifT (decide_eq_true (by omega)) ⟨by omega,AtN.of (Zcf hp) fun _ _=>?_⟩
    refine Zcpc s _ fun _=>IfB.intro (fun h1=>of_eq h ?_) (fun h1=>of_eq (hx ?_) ?_)
    . have:p.all Zel=false:=by rw [hp];simp at h1;simp [h1]
      simp [Zbs,this,Ziq]
    simp at h1;simp [h1];simpa using hP
    . rw [Ze (by omega) (by omega)];simp
  . dsimp only [Zbfg];refine ifF (decide_eq_false (by omega)) fun _=>Zcra p _ hl hc fun _=>IfB.intro (fun h1=>of_eq h ?_) (fun h1=>of_eq h ?_)
    . have: ¬cnt p <= 64:=by simp at h1;omega
      simp [Zbs,this,Ziq]
    . have:cnt p <= 64:=by simp at h1;omega
      rw [Zbs,hP,decide_eq_true this];rfl
theorem Zbzj {p pre post:List Seg} {s:Seg} (hp:p=pre++s::post) (h:Zel s=false):Zbs p=false:=by
  have:p.all Zel=false:=by rw [hp];simp [h]
  simp [Zbs,this]
theorem Zcso {p:List Seg} (h:64<cnt p):Zbs p=false:=by
  have: ¬cnt p <= 64:=by omega
  simp [Zbs,this]
theorem Zcul (pre post:List Seg) (s:Seg):cnt (pre++s::post)=cnt pre+s.2.length+cnt post:=by simp [cnt];omega
def Zbsc (four:Bool) (x:UInt32):List UInt8:=if four then be4 x.toNat else be2 (if x.toNat>65535 then 23456 else x.toNat)
def Zcgl (four:Bool) (s:Seg):List UInt8:=[if s.1 then 1 else 2,UInt8.ofNat s.2.length]++s.2.flatMap (Zbsc four)
def Zbsh (four:Bool) (p:List Seg):List UInt8:=p.flatMap (Zcgl four)
end Go.Proofs.YthdffaojeghaeaaGreatDoor
namespace Go.Proofs.YthdffaojeghaeaaGreatDoor
open Go.Sh
def Zda (k:Int):Bool:=k==1||k==2||k==3||k==4||k==5||k==6||k==7||k==8||k==17||k==18
def Zdc (k:Int):Int:=if k=1∨k=2∨k=3∨k=5∨k=6 then 64 else if k=4 then 128 else if k=7∨k=8∨k=17∨k=18 then 192 else 0
theorem Zcsb (n:Int) (K:Bool->Prop) (h:K (decide (n≠0∧n<3758096384))):Zbcv n K:=by unfold Zbcv;refine IfB.intro (fun h1=>of_eq h ?_) (fun h1=>of_eq h ?_)<;>simp_all
theorem Zcsc (k:Int) (K:Int->Bool->Prop) (h:K (Zdc k) (Zda k)):Zbeq k K:=by
  by_cases h1:k=1;· subst h1;exact h
  by_cases h2:k=2;· subst h2;exact h
  by_cases h3:k=3;· subst h3;exact h
  by_cases h5:k=5;· subst h5;exact h
  by_cases h6:k=6;· subst h6;exact h
  by_cases h4:k=4;· subst h4;exact h
  by_cases h7:k=7;· subst h7;exact h
  by_cases h8:k=8;· subst h8;exact h
  by_cases h17:k=17;· subst h17;exact h
  by_cases h18:k=18;· subst h18;exact h
  have e: ∀n:Int,k≠n->(k==n)=false:=fun n hn=>by simpa using hn
  have ef:Zdc k=0:=by simp [Zdc,h1,h2,h3,h4,h5,h6,h7,h8,h17,h18]
  have ek:Zda k=false:=by simp [Zda,h1,h2,h3,h4,h5,h6,h7,h8,h17,h18]
  rw [ef,ek] at h;simp only [Zbeq,Znw,Zbpq,Zrq,e 1 h1,e 2 h2,e 3 h3,e 4 h4,e 5 h5,e 6 h6,e 7 h7,e 8 h8,e 17 h17,e 18 h18,IfB];exact h
def Zbcz:Int->List Raw->Bool
  | _,[]=>true
  | last,x::l=>(!Zda x.1&&decide (last<x.1)&&decide (x.1 <= 255)&&decide (x.2.length <= 255))&&Zbcz x.1 l
def Zcbp (a:Zo):Bool:=decide (0 <= a.origin)&&decide (a.origin <= 2)&&Zbs a.path&&decide ((a.next.toNat:Int)≠0∧(a.next.toNat:Int)<3758096384)&& !(a.hasMaker&&(a.makerAS.toNat:Int)==0)&&decide (a.comms.length <= 32)&&(Zbcz (-1) a.others&&decide (a.others.length <= 8))
end Go.Proofs.YthdffaojeghaeaaGreatDoor
namespace Go.Proofs.YthdffaojeghaeaaGreatDoor
open Go.Sh
theorem Zbwu {pre post:List (List UInt8)} {x:List UInt8}:(pre++x::post).flatten.length=pre.flatten.length+x.length+post.flatten.length:=by simp;omega
def attB (fl kind:Int) (data:List UInt8):List UInt8:=
  (if 255<data.length then [ofI .u8 (fl+16),ofI .u8 (IntKind.wrap .u8 kind),UInt8.ofNat (data.length/256),UInt8.ofNat data.length] else [ofI .u8 fl,ofI .u8 (IntKind.wrap .u8 kind),UInt8.ofNat data.length])++data
def Zcjq (four:Bool) (a:Zo):List UInt8:=
  (if a.hasMed then attB 128 4 (be4 a.med.toNat) else [])++((if a.atomic then attB 64 6 [] else [])++((if a.hasMaker then attB 192 7 (Zbsc four a.makerAS++be4 a.maker.toNat) else [])++if 0<a.comms.length then attB 192 8 (a.comms.flatMap fun x=>be4 x.toNat) else []))
end Go.Proofs.YthdffaojeghaeaaGreatDoor
namespace Go.Proofs.YthdffaojeghaeaaGreatDoor
open Go.Sh
def Zbsu (x:UInt32):Bool:=decide (65535<x.toNat)
def Zcen (p:List Seg):Bool:=p.any fun s=>s.2.any Zbsu
def Zcum (four:Bool) (a:Zo):List UInt8:=attB 64 1 [ofI .u8 (IntKind.wrap .u8 a.origin)]++(attB 64 2 (Zbsh four a.path)++attB 64 3 (be4 a.next.toNat))
def oldB (four:Bool) (a:Zo):List UInt8:=
  (if !four&&Zcen a.path then attB 192 17 (Zbsh true a.path) else [])++if !four&&(a.hasMaker&&Zbsu a.makerAS) then attB 192 18 (be4 a.makerAS.toNat++be4 a.maker.toNat) else []
def Zcit (l:List Raw):List UInt8:=l.flatMap fun x=>attB 224 x.1 x.2
def Zcgm (four:Bool) (a:Zo):List UInt8:=Zcum four a++(Zcjq four a++(oldB four a++Zcit a.others))
end Go.Proofs.YthdffaojeghaeaaGreatDoor
namespace Go.Proofs.YthdffaojeghaeaaGreatDoor
open Go.Sh
end Go.Proofs.YthdffaojeghaeaaGreatDoor
namespace Go.Proofs.YthdffaojeghaeaaGreatDoor
open Go.Sh
end Go.Proofs.YthdffaojeghaeaaGreatDoor
namespace Go.Proofs.YthdffaojeghaeaaGreatDoor
open Go.Sh
end Go.Proofs.YthdffaojeghaeaaGreatDoor
namespace Go.Proofs.YthdffaojeghaeaaGreatDoor
open Go.Sh
end Go.Proofs.YthdffaojeghaeaaGreatDoor
end
section
namespace Go.Proofs.YthdffaojeghaeaaGreatDoor
open Go.Sh
def numB (l:List UInt8):Nat:=l.foldl (fun a x=>a*256+x.toNat) 0
def decN (size:Nat):Nat->List UInt8->List UInt32
  | 0,_=>[]
  | k+1,b=>UInt32.ofNat (numB (b.take size))::decN size k (b.drop size)
theorem Zkp (size:Nat): ∀(k:Nat) (b:List UInt8),(decN size k b).length=k
  | 0,_=>rfl
  | k+1,b=>by simp [decN,Zkp size k]
def Zee (four:Bool):Nat:=if four then 4 else 2
def Zgx (size:Nat):Nat->List UInt8->Option (List Seg)
  | _,[]=>some []
  | 0,_::_=>none
  | _+1,[_]=>none
  | f+1,k::n::r=>if (k=1∨k=2)∧n.toNat*size <= r.length then (Zgx size f (r.drop (n.toNat*size))).map fun t=>(k==1,decN size n.toNat r)::t else none
theorem Zbol (size:Nat): ∀(f g:Nat) (b:List UInt8),b.length <= f->b.length <= g->Zgx size f b=Zgx size g b
  | 0,0,_,_,_=>rfl
  | 0,_+1,[],_,_=>rfl
  | 0,_+1,_::_,h,_=>by simp at h
  | _+1,0,[],_,_=>rfl
  | _+1,0,_::_,_,h=>by simp at h
  | _+1,_+1,[],_,_=>rfl
  | _+1,_+1,[_],_,_=>rfl
  | f+1,g+1,k::n::r,hf,hg=>by simp only [List.length_cons] at hf hg;simp only [Zgx];rw [Zbol size f g _ (by simp only [List.length_drop];omega) (by simp only [List.length_drop];omega)]
def Zdf (four:Bool) (b:List UInt8):Option (List Seg):=match Zgx (Zee four) b.length b with
  | some p=>if Zbs p=true then some p else none
  | none=>none
theorem Zbny {four:Bool} {b:List UInt8} {p:List Seg} (h:Zdf four b=some p):Zbs p=true:=by unfold Zdf at h;split at h;split at h;rename_i hp;cases h;exact hp;cases h;cases h
def lenP (p:List Seg):Nat:=(p.map fun s=>if s.1 then 1 else s.2.length).sum
def Zbj:List Seg->Nat->List Seg
  | _,0=>[]
  | [],_=>[]
  | s::r,n+1=>if s.1 then s::Zbj r n else (s.1,s.2.take (n+1))::Zbj r (n+1 - min (n+1) s.2.length)
def Zew (out rest:List Seg):List Seg:=match out.getLast?,rest with
  | some l,r::rest'=>if !l.1&& !r.1 then out.dropLast++(l.1,l.2++r.2)::rest' else out++rest
  | _,_=>out++rest
def Zbv (two four:List Seg):List Seg:=if lenP two<lenP four then two else Zew (Zbj two (lenP two - lenP four)) four
def Zdy:List UInt8->Option (Nat×Nat×List UInt8×Nat)
  | fl::kd::n1::r=>
    if fl.toNat/16%2=1 then match r with
      | n2::r'=>if n1.toNat*256+n2.toNat <= r'.length then some (fl.toNat/64*64,kd.toNat,r'.take (n1.toNat*256+n2.toNat),4+(n1.toNat*256+n2.toNat)) else none
      | []=>none
    else if n1.toNat <= r.length then some (fl.toNat/64*64,kd.toNat,r.take n1.toNat,3+n1.toNat) else none
  | _=>none
theorem Zbrv {b:List UInt8} {fl kd:Nat} {d:List UInt8} {n:Nat} (h:Zdy b=some (fl,kd,d,n)):3 <= n∧n <= b.length∧kd<256∧d.length+3 <= n:=by unfold Zdy at h;split at h;rename_i f k n1 r;have hk:=UInt8.toNat_lt k;split at h;split at h;rename_i n2 r';split at h;rename_i hle;simp only [Option.some.injEq,Prod.mk.injEq] at h;obtain ⟨rfl,rfl,rfl,rfl⟩:=h;simp only [List.length_cons,List.length_take];omega;cases h;cases h;split at h;rename_i hle;simp only [Option.some.injEq,Prod.mk.injEq] at h;obtain ⟨rfl,rfl,rfl,rfl⟩:=h;simp only [List.length_cons,List.length_take];omega;cases h;cases h
def twoF (fl:Int):Nat:=fl.toNat/64*64
end Go.Proofs.YthdffaojeghaeaaGreatDoor
namespace Go.Proofs.YthdffaojeghaeaaGreatDoor
open Go.Sh
structure RdS where
  a:Zo
  worst:Nat
  seen:List Nat
  p4:Option (List Seg)
  m4:Option (UInt32×UInt32)
def Zfs:Zo:=(0,[],0,false,0,false,0,false,false,0,0,[],[])
def rd0:RdS:=⟨Zfs,0,[],none,none⟩
def RdS.found (s:RdS) (w:Nat):RdS:=⟨s.a,max s.worst w,s.seen,s.p4,s.m4⟩
def RdS.put (s:RdS) (a:Zo):RdS:=⟨a,s.worst,s.seen,s.p4,s.m4⟩
def RdS.see (s:RdS) (k:Nat):RdS:=⟨s.a,s.worst,k::s.seen,s.p4,s.m4⟩
def u32B (d:List UInt8):UInt32:=UInt32.ofNat (numB d)
def oneF (four:Bool) (kind:Nat) (d:List UInt8) (s:RdS):RdS:=
  let (origin,path,nxt,hasMed,med,hasLocal,loc,atomic,hasMaker,makerAS,maker,comms,others):=s.a
  if kind=1 then (if d.length=1∧(d.headD 0).toNat <= 2 then s.put (((d.headD 0).toNat:Int),path,nxt,hasMed,med,hasLocal,loc,atomic,hasMaker,makerAS,maker,comms,others) else s.found 2)
  else if kind=2 then (match Zdf four d with
    | some p=>s.put (origin,p,nxt,hasMed,med,hasLocal,loc,atomic,hasMaker,makerAS,maker,comms,others)
    | none=>s.found 2)
  else if kind=3 then (if d.length=4∧numB d≠0∧numB d<3758096384 then s.put (origin,path,u32B d,hasMed,med,hasLocal,loc,atomic,hasMaker,makerAS,maker,comms,others) else s.found 2)
  else if kind=4 then (if d.length=4 then s.put (origin,path,nxt,true,u32B d,hasLocal,loc,atomic,hasMaker,makerAS,maker,comms,others) else s.found 2)
  else if kind=6 then (if d.length=0 then s.put (origin,path,nxt,hasMed,med,hasLocal,loc,true,hasMaker,makerAS,maker,comms,others) else s.found 1)
  else if kind=7 then (if d.length=Zee four+4∧numB (d.take (Zee four))≠0 then s.put (origin,path,nxt,hasMed,med,hasLocal,loc,atomic,true,u32B (d.take (Zee four)),u32B (d.drop (Zee four)),comms,others) else s.found 1)
  else if kind=8 then (if d.length≠0∧d.length%4=0∧d.length/4 <= 32 then s.put (origin,path,nxt,hasMed,med,hasLocal,loc,atomic,hasMaker,makerAS,maker,comms++decN 4 (d.length/4) d,others) else s.found 2)
  else if kind=17 then (if four then s else match Zdf true d with
    | some p=>⟨s.a,s.worst,s.seen,some p,s.m4⟩
    | none=>s.found 1)
  else if kind=18 then (if four then s else if d.length=8∧numB (d.take 4)≠0 then ⟨s.a,s.worst,s.seen,s.p4,some (u32B (d.take 4),u32B (d.drop 4))⟩ else s.found 1)
  else s
def insO (k:Int) (d:List UInt8):List Raw->List Raw
  | []=>[(k,d)]
  | x::r=>if x.1<k then x::insO k d r else (k,d)::x::r
def Zex (kind:Nat) (d:List UInt8) (s:RdS):RdS:=
  let (origin,path,nxt,hasMed,med,hasLocal,loc,atomic,hasMaker,makerAS,maker,comms,others):=s.a
  if 8 <= others.length∨255<d.length then s.found 1 else s.put (origin,path,nxt,hasMed,med,hasLocal,loc,atomic,hasMaker,makerAS,maker,comms,insO kind d others)
def Zci (four:Bool) (fl kind:Nat) (d:List UInt8) (s:RdS):Option RdS:=
  if kind∈s.seen then some (s.found 1)
  else if Zda kind=true then (if (fl:Int)=Zdc kind then some (oneF four kind d (s.see kind)) else some ((s.see kind).found 2))
  else if fl<128 then none else if fl=192 then some (Zex kind d (s.see kind)) else some (s.see kind)
def Zce (four:Bool):Nat->List UInt8->RdS->RdS×Option (List UInt8)
  | _,[],s=>(s,none)
  | 0,_::_,s=>(s,none)
  | f+1,x::b,s=>match Zdy (x::b) with
    | none=>(s.found 2,none)
    | some (fl,kd,d,n)=>match Zci four fl kd d s with
      | none=>(s,some ((x::b).take n))
      | some s'=>Zce four f ((x::b).drop n) s'
theorem Zbfs (four:Bool): ∀(f g:Nat) (b:List UInt8) (s:RdS),b.length <= f->b.length <= g->Zce four f b s=Zce four g b s
  | 0,0,_,_,_,_=>rfl
  | 0,_+1,[],_,_,_=>rfl
  | 0,_+1,_::_,_,h,_=>by simp at h
  | _+1,0,[],_,_,_=>rfl
  | _+1,0,_::_,_,_,h=>by simp at h
  | _+1,_+1,[],_,_,_=>rfl
  | f+1,g+1,x::b,s,hf,hg=>by
    simp only [Zce];cases hn:Zdy (x::b) with
    | none=>rfl
    | some r=>
      obtain ⟨fl,kd,d,n⟩:=r;obtain ⟨h1,_⟩:=Zbrv hn;simp only;cases Zci four fl kd d s with
      | none=>rfl
      | some s'=>
        simp only [List.length_cons] at hf hg;exact Zbfs four f g _ s' (by simp only [List.length_drop,List.length_cons];omega) (by simp only [List.length_drop,List.length_cons];omega)
def Zdm (s:RdS):Zo:=
  let (origin,path,nxt,hasMed,med,hasLocal,loc,atomic,hasMaker,makerAS,maker,comms,others):=s.a
  if hasMaker=true∧makerAS≠23456 then s.a else
    let m:UInt32×UInt32:=match hasMaker,s.m4 with
      | true,some m=>m
      | _,_=>(makerAS,maker)
    let p:List Seg:=match s.p4 with
      | some q=>if Zbs (Zbv path q)=true then Zbv path q else path
      | none=>path
    (origin,p,nxt,hasMed,med,hasLocal,loc,atomic,hasMaker,m.1,m.2,comms,others)
def Zbp (four told:Bool) (b:List UInt8):Zo×Nat×Option (List UInt8):=
  match Zce four b.length b rd0 with
  | (_,some w)=>(Zfs,3,some w)
  | (s,none)=>
    let s':=if told=true∧¬(1∈s.seen∧2∈s.seen∧3∈s.seen) then s.found 2 else s
    if 2 <= s'.worst then (Zfs,s'.worst,none) else (Zdm s',s'.worst,none)
def Zpc (four:Bool) (s:Option RdS) (p:Int×Nat×List UInt8):Option RdS:=s.bind (Zci four (twoF p.1) p.2.1 p.2.2)
end Go.Proofs.YthdffaojeghaeaaGreatDoor
namespace Go.Proofs.YthdffaojeghaeaaGreatDoor
open Go.Sh
structure Sg (s:RdS) (a:Zo) (m:Nat) (p4:Option (List Seg)) (m4:Option (UInt32×UInt32)):Prop where
  a:s.a=a
  w:s.worst=0
  le: ∀k∈s.seen,k <= m
  kn: ∀k∈s.seen,Zda (k:Int)=true
  s1:1∈s.seen
  s2:2∈s.seen
  s3:3∈s.seen
  p:s.p4=p4
  q:s.m4=m4
end Go.Proofs.YthdffaojeghaeaaGreatDoor
namespace Go.Proofs.YthdffaojeghaeaaGreatDoor
open Go.Sh
end Go.Proofs.YthdffaojeghaeaaGreatDoor
namespace Go.Proofs.YthdffaojeghaeaaGreatDoor
open Go.Sh
end Go.Proofs.YthdffaojeghaeaaGreatDoor
namespace Go.Proofs.YthdffaojeghaeaaGreatDoor
open Go.Sh
theorem Zbmu {k:Int} {d:List UInt8} {x:Raw}: ∀l:List Raw,x∈insO k d l->x=(k,d)∨x∈l
  | [],h=>by simp only [insO,List.mem_singleton] at h;exact .inl h
  | y::r,h=>by simp only [insO] at h;split at h;rcases List.mem_cons.1 h with rfl | h;exact .inr List.mem_cons_self;rcases Zbmu r h with h | h;exact .inl h;exact .inr (List.mem_cons_of_mem _ h);rcases List.mem_cons.1 h with h | h;exact .inl h;exact .inr h
structure SafeS (s:RdS):Prop where
  o:0 <= s.a.origin∧s.a.origin <= 2
  p:s.worst <= 1->2∈s.seen->Zbs s.a.path=true
  n:s.worst <= 1->3∈s.seen->s.a.next.toNat≠0∧s.a.next.toNat<3758096384
  l:s.a.hasLocal=false
  m:s.a.hasMaker=true->s.a.makerAS.toNat≠0
  c:s.a.comms.length <= 32∧(8∉s.seen->s.a.comms= [])
  t:Zbcz (-1) s.a.others=true∧s.a.others.length <= 8∧∀x∈s.a.others,x.1.toNat∈s.seen∧0 <= x.1
  q: ∀z,s.m4=some z->z.1.toNat≠0
theorem Zyv {d:List UInt8} (h:numB d<4294967296):(u32B d).toNat=numB d:=by unfold u32B;rw [UInt32.toNat_ofNat',Nat.mod_eq_of_lt (by omega)]
theorem Zbvn: ∀(d:List UInt8) (a:Nat),d.foldl (fun a x=>a*256+x.toNat) a<(a+1)*256^d.length
  | [],a=>by simp
  | x::d,a=>by
    have hx:=UInt8.toNat_lt x;have ih:=Zbvn d (a*256+x.toNat);simp only [List.foldl_cons,List.length_cons,Nat.pow_succ];have h3:(a*256+x.toNat+1)*256^d.length <= ((a+1)*256)*256^d.length:=Nat.mul_le_mul_right _ (by omega)
    have h4:(a+1)*256*256^d.length=(a+1)*(256^d.length*256):=by rw [Nat.mul_assoc,Nat.mul_comm 256]
    omega
theorem Zbwr {d:List UInt8} (h:d.length <= 4):numB d<4294967296:=by
  have h1:=Zbvn d 0;have h2:256^d.length <= 256^4:=Nat.pow_le_pow_right (by decide) h
  have h3:(256:Nat)^4=4294967296:=rfl;unfold numB;omega
end Go.Proofs.YthdffaojeghaeaaGreatDoor
namespace Go.Proofs.YthdffaojeghaeaaGreatDoor
open Go.Sh
theorem Zbvf {T X:Type} {fin:T->Prop} {body:T->X->(T->Prop)->Prop} (S:List X->T): ∀(post pre:List X),(∀pre' x post',pre++post=pre'++x::post'->∀next:T->Prop,next (S (pre'++[x]))->body (S pre') x next)->fin (S (pre++post))->Zim fin body post (S pre)
  | [],pre,_,he=>by rw [List.append_nil] at he;exact he
  | x::r,pre,hr,he=>by
    have e:pre++x::r=(pre++[x])++r:=by simp
    exact hr pre x r rfl _ (Zbvf S r (pre++[x]) (fun pre' y post' h=>hr pre' y post' (by rw [e];exact h)) (by rw [← e];exact he))
theorem Zyz (l:List UInt8) (x:UInt8):numB (l++[x])=numB l*256+x.toNat:=by simp [numB]
theorem Zjc: ∀(d:List UInt8),numB d<256^d.length:=fun d=>by
  have: ∀(d:List UInt8) (a:Nat),d.foldl (fun a x=>a*256+x.toNat) a<(a+1)*256^d.length:=by
    intro d;induction d with
    | nil=>intro a;simp
    | cons x d ih=>
      intro a;have hx:=UInt8.toNat_lt x;have ih:=ih (a*256+x.toNat);simp only [List.foldl_cons,List.length_cons,Nat.pow_succ];have h3:(a*256+x.toNat+1)*256^d.length <= ((a+1)*256)*256^d.length:=Nat.mul_le_mul_right _ (by omega)
      have h4:(a+1)*256*256^d.length=(a+1)*(256^d.length*256):=by rw [Nat.mul_assoc,Nat.mul_comm 256]
      omega
  have:=this d 0;unfold numB;omega
theorem Zber {size:Nat} (hs:1 <= size): ∀(n:Nat) (s:List UInt8),s.length=n*size->(Zgl s size).map (fun c=>UInt32.ofNat (numB c.1))=decN size n s∧∀c∈Zgl s size,c.1.length=size
  | 0,s,h=>by
    have:s= []:=List.eq_nil_of_length_eq_zero (by omega)
    subst this;exact ⟨rfl,fun c hc=>by simp [Zcnl] at hc⟩
  | n+1,s,h=>by
    have hne:s≠[]:=fun e=>by subst e;simp [Nat.succ_mul] at h;omega
    rw [Nat.succ_mul] at h;rw [Zbru (by omega) hne]
    obtain ⟨h1,h2⟩:=Zber hs n (s.drop size) (by rw [List.length_drop];omega)
    rw [Int.toNat_natCast];refine ⟨by simp only [List.map_cons,decN,h1],fun c hc=>?_⟩
    rcases List.mem_cons.1 hc with rfl | hc;simp only [List.length_take];omega;exact h2 c hc
def rpK (four:Bool) (b:List UInt8) (K:List Seg->Int->Prop):Prop:=match Zdf four b with
  | some p=>K p 0
  | none=>K [] 7
def rpT (size:Nat) (p:List Seg) (r:List UInt8) (K:List Seg->Int->Prop):Prop:=match Zgx size r.length r with
  | some t=>if Zbs (p++t)=true then K (p++t) 0 else K [] 7
  | none=>K [] 7
theorem Zbkd {size:Nat} {p:List Seg} {K:List Seg->Int->Prop} (h:rpT size p [] K):if Zbs p=true then K p 0 else K [] 7:=by unfold rpT at h;simp only [List.length_nil,Zgx,List.append_nil] at h;exact h
theorem Zbmj {size:Nat} {p:List Seg} {x:UInt8} {K:List Seg->Int->Prop} (h:rpT size p [x] K):K [] 7:=by unfold rpT at h;simp only [List.length_cons,List.length_nil,Zgx] at h;exact h
theorem Zbnu {size:Nat} {p:List Seg} {x y:UInt8} {r:List UInt8} {K:List Seg->Int->Prop} (hc: ¬((x=1∨x=2)∧y.toNat*size <= r.length)) (h:rpT size p (x::y::r) K):K [] 7:=by unfold rpT at h;simp only [List.length_cons,Zgx] at h;rw [if_neg hc] at h;exact h
theorem Zbwd {size:Nat} {p:List Seg} {x y:UInt8} {r:List UInt8} {K:List Seg->Int->Prop} (hc:(x=1∨x=2)∧y.toNat*size <= r.length) (h:rpT size p (x::y::r) K):rpT size (p++[(x==1,decN size y.toNat r)]) (r.drop (y.toNat*size)) K:=by
  unfold rpT at h ⊢;simp only [List.length_cons,Zgx] at h;rw [if_pos hc,Zbol size (r.length+1) (r.drop (y.toNat*size)).length _ (by simp only [List.length_drop];omega) (Nat.le_refl _)] at h
  cases hs:Zgx size (r.drop (y.toNat*size)).length (r.drop (y.toNat*size)) with
  | none=>rw [hs] at h;exact h
  | some t=>
    rw [hs] at h;simp only [Option.map_some] at h;simp only [List.append_assoc,List.cons_append,List.nil_append];exact h
theorem Zbvo {four:Bool} {b:List UInt8} {K:List Seg->Int->Prop} (h:rpK four b K):rpT (Zee four) [] b K:=by
  unfold rpK Zdf at h;unfold rpT;cases hs:Zgx (Zee four) b.length b with
  | none=>rw [hs] at h;exact h
  | some t=>
    rw [hs] at h;simp only [List.nil_append] at h ⊢;by_cases hp:Zbs t=true;rw [if_pos hp] at h ⊢;exact h;rw [if_neg hp] at h ⊢;exact h
theorem Zbqs (p:List Seg) (s:Seg):cnt (p++[s])=cnt p+s.2.length:=by simp [cnt]
theorem Zbod (b:List UInt8) (size:Nat) (K:List Seg->Int->Prop) (hs:size=4∨size=2) (hl:b.length <= 1000000000) (h:rpT size [] b K):Zzf b size K:=by
  unfold Zzf;refine ⟨fun k x=>∃(r:List UInt8) (p:List Seg),x=(r,p,())∧k=r.length∧p.length+cnt p+r.length <= b.length∧rpT size p r K,b.length,⟨b,[],rfl,rfl,by simp [cnt],h⟩,?_⟩
  rintro k x ⟨r,p,rfl,rfl,hlen,hr⟩;intro _;dsimp only [Zbnv];cases r with
  | nil=>
    refine ifF rfl fun _=>Zbob p _ (by omega) (by omega) fun _=>?_
    have h1:=Zbkd hr;cases hp:Zbs p with
    | true=>rw [hp,if_pos rfl] at h1;exact ifT rfl h1
    | false=>rw [hp,if_neg (by decide)] at h1;exact ifF rfl h1
  | cons x r=>
  refine ifT (decide_eq_true (by simp only [List.length_cons];omega)) ?_
  cases r with
  | nil=>
    refine ifT rfl ?_;unfold Zih;exact ifT rfl (Zbmj hr)
  | cons y r=>
  simp only [List.length_cons] at hlen;have hx:=UInt8.toNat_lt x;have hy:=UInt8.toNat_lt y;have hsz:size <= 4∧1 <= size:=by omega
  have hmul:y.toNat*size <= 255*4:=Nat.mul_le_mul (by omega) hsz.1
  have wl:IntKind.wrap .i64 ((((x::y::r).length:Nat):Int) - 2)=(r.length:Int):=by rw [Ze (by simp only [List.length_cons];omega) (by simp only [List.length_cons];omega)];simp only [List.length_cons];omega
  have wm:IntKind.wrap .i64 (IntKind.wrap .i64 (y.toNat:Int)*(size:Int))=((y.toNat*size:Nat):Int):=by rw [Ze (n:=(y.toNat:Int)) (by omega) (by omega),← Int.natCast_mul,Ze (by omega) (by omega)]
  have bad: ¬((x=1∨x=2)∧y.toNat*size <= r.length)->Zih (x::y::r) size p (fun x'=>∃k',k'<(x::y::r).length∧∃(r:List UInt8) (p:List Seg),x'=(r,p,())∧k'=r.length∧p.length+cnt p+r.length <= b.length∧rpT size p r K) true K:=fun hc=>by unfold Zih;exact ifT rfl (Zbnu hc hr)
  have good:(x=1∨x=2)->Zih (x::y::r) size p (fun x'=>∃k',k'<(x::y::r).length∧∃(r:List UInt8) (p:List Seg),x'=(r,p,())∧k'=r.length∧p.length+cnt p+r.length <= b.length∧rpT size p r K) (decide (((y.toNat*size:Nat):Int)>(r.length:Int))) K:=fun hk=>by
    by_cases hc:y.toNat*size <= r.length
    case neg=>
      rw [decide_eq_true (by omega)]
      exact bad fun h=>hc h.2
    rw [decide_eq_false (by omega)]
    unfold Zih;refine ifF rfl ⟨by decide,AtN.of rfl fun _=>⟨by decide,AtN.of rfl fun _=>?_⟩⟩
    have w2:IntKind.wrap .i64 (2+((y.toNat*size:Nat):Int))=((2+y.toNat*size:Nat):Int):=by rw [Ze (by omega) (by omega)];omega
    rw [wm,w2,Int.toNat_natCast];have hd:((x::y::r).take (2+y.toNat*size)).drop 2=r.take (y.toNat*size):=by rw [Nat.add_comm];rfl
    have hdr:(x::y::r).drop (2+y.toNat*size)=r.drop (y.toNat*size):=by rw [Nat.add_comm];rfl
    refine ⟨by omega,by simp only [List.length_cons];omega,by decide,by omega,ifF (decide_eq_false (by omega)) ⟨⟨by show (1:Int) <= size;omega,by show (size:Int) <= _;omega,?_⟩,?_⟩⟩
    show (((x::y::r).take (2+y.toNat*size)).drop 2).length <= _;rw [hd,List.length_take];omega
    . show Zim _ _ (Zgl (((x::y::r).take (2+y.toNat*size)).drop 2) (size:Int)) _;rw [hd];obtain ⟨c1,c2⟩:=Zber hsz.2 y.toNat (r.take (y.toNat*size)) (by rw [List.length_take];omega)
      have hx1:(((x.toNat:Int):Int)==1)=(x==1):=by by_cases e:x=1;subst e;rfl;rw [beq_eq_false_iff_ne.2 e,beq_eq_false_iff_ne.2 fun h=>e (UInt8.toNat_inj.1 (by show x.toNat=1;omega))]
      rw [hx1];refine Zbvf (fun pre:List (List UInt8×Unit)=>((x==1),pre.map (fun c=>UInt32.ofNat (numB c.1)),())) _ [] (fun pre c post hp2 next hn=>?_) ?_
      . intro _ _;have hcl:c.1.length=size:=c2 c (by rw [← List.nil_append (Zgl _ _),hp2];simp)
        have hcn:(Zgl (r.take (y.toNat*size)) (size:Int)).length=y.toNat:=by have:=congrArg List.length c1;rw [List.length_map,Zkp] at this;exact this
        have hpl:pre.length<y.toNat:=by have:=congrArg List.length hp2;simp only [List.length_append,List.length_cons,List.nil_append] at this;omega
        dsimp only [Zbxe];refine Zk.over c.1 (fun z=>((numB z:Int),(z.length:Int),(x==1),pre.map (fun c=>UInt32.ofNat (numB c.1)),())) (fun _=>True) rfl trivial (fun z v post2 hz hz2 _ next2 hn2=>?_) (fun _ next2 _=>?_)
        . intro _;dsimp only [Zbig];have hv:=UInt8.toNat_lt v;have hnb:=Zjc z;have hz3:z.length <= 3:=by rw [hcl] at hz2;omega
          have hnb2:numB z<16777216:=by
            have:256^z.length <= 256^3:=Nat.pow_le_pow_right (by decide) hz3
            omega
          refine ifT (decide_eq_true (by omega)) ⟨by omega,AtN.of (Zcf hz) fun _=>⟨by decide,of_eq (hn2 trivial) ?_⟩⟩
          rw [Zyz,show (numB z:Int)*256=((numB z*256:Nat):Int) by omega,wu32 (by omega),wu32 (by omega),Zju .u32 _ _ (Zfv (by omega)) (Zfv (by omega)),Zty _ _ (by omega),wu32 (by omega),Ze (by omega) (by omega)]
          simp
        . dsimp only [Zbig];refine ifF (decide_eq_false (by omega)) ⟨by simp only [List.length_map,List.length_cons,List.length_nil];omega,of_eq hn ?_⟩
          have e:(ofI .u32 (numB c.1:Int):UInt32)=UInt32.ofNat (numB c.1):=by simp [ofI]
          rw [e,List.map_append];rfl
      . intro _;dsimp only [List.nil_append];rw [c1];unfold Zbtg;rw [wm,w2,Int.toNat_natCast,hdr];have hdl:=Zkp size y.toNat (r.take (y.toNat*size));have hdt:decN size y.toNat (r.take (y.toNat*size))=decN size y.toNat r:=by
          have: ∀(n:Nat) (s:List UInt8),n*size <= s.length->decN size n (s.take (n*size))=decN size n s:=by
            intro n;induction n with
            | zero=>intro s _;rfl
            | succ n ih=>
              intro s hsl;rw [Nat.succ_mul] at hsl;simp only [decN];have e1:(s.take ((n+1)*size)).take size=s.take size:=by rw [List.take_take,Nat.min_eq_left];rw [Nat.succ_mul];omega
              have e2:(s.take ((n+1)*size)).drop size=(s.drop size).take (n*size):=by rw [List.drop_take,Nat.succ_mul,Nat.add_sub_cancel]
              rw [e1,e2,ih (s.drop size) (by rw [List.length_drop];omega)]
          exact this y.toNat r hc
        have hny:y.toNat*1 <= y.toNat*size:=Nat.mul_le_mul_left _ hsz.2;refine ⟨by omega,by simp only [List.length_cons];omega,by simp only [List.length_cons,List.length_nil];omega,_,?_,_,_,rfl,rfl,?_,?_⟩
        simp only [List.length_drop,List.length_cons];omega;rw [Zbqs,List.length_append,hdl];simp only [List.length_cons,List.length_nil,List.length_drop];omega;rw [hdt];exact Zbwd ⟨hk,hc⟩ hr
  refine ifF (decide_eq_false (by simp only [List.length_cons];omega)) ⟨by decide,AtN.of rfl fun _=>IfB.intro (fun h1=>?_) (fun h1=>?_)⟩
  . have h1:x.toNat≠1:=fun e=>by rw [e] at h1;simp at h1
    refine ⟨by decide,AtN.of rfl fun _=>IfB.intro (fun h2=>?_) (fun h2=>?_)⟩
    . have h2:x.toNat≠2:=fun e=>by rw [e] at h2;simp at h2
      exact bad fun h=>by rcases h.1 with e | e<;>subst e;exact h1 rfl;exact h2 rfl
    . have h2:x.toNat=2:=by
        have:((x.toNat:Int):Int)=2:=by simpa using h2
        omega
      refine ⟨by decide,AtN.of rfl fun _=>?_⟩
      rw [wl,wm];exact good (.inr (UInt8.toNat_inj.1 h2))
  . have h1:x.toNat=1:=by
      have:((x.toNat:Int):Int)=1:=by simpa using h1
      omega
    refine ⟨by decide,AtN.of rfl fun _=>?_⟩
    rw [wl,wm];exact good (.inl (UInt8.toNat_inj.1 h1))
theorem Zccj (b:List UInt8) (four:Bool) (K:List Seg->Int->Prop) (hl:b.length <= 1000000000) (h:rpK four b K):Zbfy b four K:=by
  unfold Zbfy;have:=Zbvo h;cases four with
  | true=>exact ifT rfl (Zbod b 4 K (.inl rfl) hl this)
  | false=>exact ifF rfl (Zbod b 2 K (.inr rfl) hl this)
end Go.Proofs.YthdffaojeghaeaaGreatDoor
namespace Go.Proofs.YthdffaojeghaeaaGreatDoor
open Go.Sh
theorem Zciz (n:Int) (K:List UInt32->Prop) (h0:0 <= n) (hn:n <= 1000000000) (h:K []):Zuy n K:=by
  unfold Zuy;have e:IntKind.wrap .i64 (n - IntKind.wrap .i64 (0 - 0))=n:=by
    rw [Ze (n:=0 - 0) (by omega) (by omega)]
    exact Ze (by omega) (by omega) |>.trans (by omega)
  rw [e];refine ifF (decide_eq_false (by omega)) (IfB.intro (fun h1=>?_) (fun _=>h))
  have h1:0<n:=by simpa using h1
  exact ⟨by omega,by omega,h1,hn,by omega,by omega,by simpa using h⟩
theorem Zbxv {pre post:List (List UInt32)} {x:List UInt32}:(pre++x::post).flatten.length=pre.flatten.length+x.length+post.flatten.length:=by simp;omega
theorem Zckr (l:List (List UInt32)) (K:List UInt32->Prop) (hl:l.length <= 1000000000) (hf:l.flatten.length <= 1000000000) (h:K l.flatten):Zyf l K:=by
  unfold Zyf;refine Zk.over l (fun pre=>((pre.flatten.length:Int),(pre.length:Int),())) (fun _=>True) rfl trivial (fun pre x post hp hn _ next hx=>?_) (fun _ next _=>?_)
  . intro _;dsimp only [Zbek];have hs:=Zbxv (pre:=pre) (x:=x) (post:=post);rw [← hp] at hs;refine ifT (decide_eq_true (by omega)) ⟨by omega,AtN.of (Zcf hp) fun _=>?_⟩
    rw [Ze (n:=(pre.flatten.length:Int)+x.length) (by omega) (by omega)]
    refine ifF (decide_eq_false (by omega)) (of_eq (hx trivial) ?_)
    rw [Ze (by omega) (by omega)]
    simp
  . dsimp only [Zbek];refine ifF (decide_eq_false (by omega)) fun _=>Zciz _ _ (by omega) (by omega) fun _=>?_
    refine Zk.over l (fun pre=>(pre.flatten,(pre.length:Int),())) (fun _=>True) rfl trivial (fun pre x post hp hn _ next hx=>?_) (fun _ next _=>?_)
    . intro _;dsimp only [Zbfb];have hs:=Zbxv (pre:=pre) (x:=x) (post:=post);rw [← hp] at hs;refine ifT (decide_eq_true (by omega)) ⟨by omega,AtN.of (Zcf hp) fun _=>⟨by omega,of_eq (hx trivial) ?_⟩⟩
      rw [Ze (by omega) (by omega)]
      simp
    dsimp only [Zbfb];exact ifF (decide_eq_false (by omega)) h
theorem Zws (p q:List Seg):lenP (p++q)=lenP p+lenP q:=by simp [lenP]
theorem Zkd: ∀p:List Seg,lenP p <= p.length+cnt p
  | []=>by simp [lenP]
  | s::p=>by
    have ih:=Zkd p;have e1:lenP (s::p)=(if s.1 then 1 else s.2.length)+lenP p:=by simp [lenP]
    have e2:cnt (s::p)=s.2.length+cnt p:=by simp [cnt]
    rw [e1,e2,List.length_cons];split<;>omega
theorem Zbvs (p:List Seg) (K:Int->Prop) (hl:p.length+cnt p <= 1000000000) (h:K (lenP p)):Zof p K:=by
  unfold Zof;refine Zk.over p (fun pre=>((lenP pre:Int),(pre.length:Int),())) (fun _=>True) rfl trivial (fun pre s post hp hn _ next hx=>?_) (fun _ next _=>?_)
  . intro _;dsimp only [Zbav,Zbfa];have e:=Zws pre (s::post);rw [← hp] at e;have e2:lenP (pre++[s])=lenP pre+(if s.1 then 1 else s.2.length):=by rw [Zws];simp [lenP]
    have e3:lenP (s::post)=(if s.1 then 1 else s.2.length)+lenP post:=by simp [lenP]
    have hle:=Zkd p;refine ifT (decide_eq_true (by omega)) ⟨by omega,AtN.of (Zcf hp) fun _=>IfB.intro (fun h1=>of_eq (hx trivial) ?_) (fun h1=>of_eq (hx trivial) ?_)⟩
    . rw [h1,if_pos rfl] at e2 e3;rw [Ze (by omega) (by omega),Ze (by omega) (by omega),e2]
      simp
    . rw [h1,if_neg (by decide)] at e2 e3
      rw [Ze (by omega) (by omega),Ze (by omega) (by omega),e2]
      simp
  dsimp only [Zbav];exact ifF (decide_eq_false (by omega)) h
theorem Zcly (s:List UInt32) (K:List UInt32->Prop) (hl:s.length <= 1000000000) (h:K s):Zbeh s K:=by
  intro isnil hn;refine IfB.intro (fun h1=>?_) (fun _=>⟨by simp only [List.length_nil];omega,by simpa using h⟩)
  have:s= []:=List.eq_nil_of_length_eq_zero (hn h1);rw [this] at h;exact h
theorem Zjz {p:List Seg} {s:Seg} (h:s∈p):s.2.length <= cnt p:=by obtain ⟨a,b,rfl⟩:=List.append_of_mem h;simp [cnt];omega
theorem Zbbm (p:List Seg) (K:List Seg->Prop) (hl:p.length+cnt p <= 1000000000) (h:K p):Znd p K:=by
  unfold Znd;refine ⟨by decide,by omega,by omega,?_⟩
  refine Zk.over p (fun pre=>(pre,(pre.length:Int),())) (fun _=>True) rfl trivial (fun pre s post hp hn _ next hx=>?_) (fun _ next _=>?_)
  . intro _;dsimp only [Zbba];have hm:=Zjz (p:=p) (s:=s) (by rw [hp];simp)
    refine ifT (decide_eq_true (by omega)) ⟨by omega,AtN.of (Zcf hp) fun _ _=>Zcly s.2 _ (by omega) fun _=>⟨by simp only [List.length_cons,List.length_nil];omega,of_eq (hx trivial) ?_⟩⟩
    rw [Ze (by omega) (by omega)]
    simp
  dsimp only [Zbba];exact ifF (decide_eq_false (by omega)) h
theorem Zbzb (p:List Seg) (n0:Nat) (K:List Seg->Prop) (hl:p.length+cnt p <= 1000000000) (hn0:n0 <= 1000000000) (h:K (Zbj p n0)):Zbai p n0 K:=by
  unfold Zbai;refine fun _=>Zbbm p _ hl fun _=>?_;refine ⟨fun k x=>∃(i n:Nat) (out:List Seg),x=((n:Int),out,(i:Int),())∧k=p.length - i∧i <= p.length∧out++Zbj (p.drop i) n=Zbj p n0∧out.length <= i∧n <= n0,p.length,⟨0,n0,[],rfl,by omega,Nat.zero_le _,rfl,by simp,Nat.le_refl _⟩,?_⟩
  rintro k x ⟨i,n,out,rfl,rfl,hi,ho,hlen,hnn⟩;intro _;dsimp only [Zbvk];by_cases h1:i<p.length
  case neg=>
    refine ifF (decide_eq_false (by omega)) ?_
    rw [List.drop_eq_nil_of_le (by omega)] at ho
    have e:Zbj [] n= []:=by cases n<;>rfl
    rw [e,List.append_nil] at ho;rw [ho];exact h
  have hd:p.drop i=p[i]::p.drop (i+1):=List.drop_eq_getElem_cons h1;have hm:=Zjz (p:=p) (s:=p[i]) (List.getElem_mem h1);refine ifT (decide_eq_true (by omega)) ⟨by omega,by omega,AtN.of (by rw [Int.toNat_natCast];exact List.getElem?_eq_getElem h1) fun _=>IfB.intro (fun h2=>?_) (fun h2=>?_)⟩
  . have h2:n=0:=by have:=of_decide_eq_true h2;omega
    subst h2;have e:Zbj (p.drop i) 0= []:=by cases p.drop i<;>rfl
    rw [e,List.append_nil] at ho;rw [ho];exact h
  have h2:0<n:=by have:=of_decide_eq_false h2;omega
  obtain ⟨m,rfl⟩: ∃m,n=m+1:=⟨n - 1,by omega⟩
  have hw:IntKind.wrap .i64 ((i:Int)+1)=((i+1:Nat):Int):=by rw [Ze (by omega) (by omega)];omega
  rw [hd] at ho;refine IfB.intro (fun h3=>?_) (fun h3=>?_)
  . unfold Zxn;rw [hw];have e:Zbj (p[i]::p.drop (i+1)) (m+1)=p[i]::Zbj (p.drop (i+1)) m:=by simp only [Zbj];rw [if_pos h3]
    rw [e] at ho;refine ⟨by simp only [List.length_cons,List.length_nil];omega,p.length - (i+1),by omega,i+1,m,out++[p[i]],?_,rfl,by omega,by rw [List.append_assoc];exact ho,by simp only [List.length_append,List.length_cons,List.length_nil];omega,by omega⟩
    rw [Ze (by omega) (by omega)]
    congr 1;omega
  . unfold Zxn;rw [hw];have hmin:(min ((m+1:Nat):Int) (p[i].2.length:Int)).toNat=min (m+1) p[i].2.length:=by omega
    rw [hmin];have htk:p[i].2.take (min (m+1) p[i].2.length)=p[i].2.take (m+1):=by rcases Nat.le_total (m+1) p[i].2.length with h4 | h4;rw [Nat.min_eq_left h4];rw [Nat.min_eq_right h4,List.take_length,List.take_of_length_le h4]
    rw [htk];have e:Zbj (p[i]::p.drop (i+1)) (m+1)=(p[i].1,p[i].2.take (m+1))::Zbj (p.drop (i+1)) (m+1 - min (m+1) p[i].2.length):=by simp only [Zbj];rw [if_neg (by rw [h3];decide)]
    rw [e] at ho;refine ⟨by omega,by omega,by simp only [List.length_cons,List.length_nil];omega,p.length - (i+1),by omega,i+1,m+1 - min (m+1) p[i].2.length,out++[(p[i].1,p[i].2.take (m+1))],?_,rfl,by omega,by rw [List.append_assoc];exact ho,by simp only [List.length_append,List.length_cons,List.length_nil];omega,by omega⟩
    rw [List.length_take,Ze (by omega) (by omega)]
    congr 1;omega
theorem Zpg: ∀(p:List Seg) (n:Nat),(Zbj p n).length <= p.length∧cnt (Zbj p n) <= cnt p
  | [],n=>by cases n<;>simp [Zbj,cnt]
  | s::p,0=>by simp [Zbj,cnt]
  | s::p,n+1=>by
    have e2:cnt (s::p)=s.2.length+cnt p:=by simp [cnt]
    simp only [Zbj];split
    . obtain ⟨h1,h2⟩:=Zpg p n;have e3:cnt (s::Zbj p n)=s.2.length+cnt (Zbj p n):=by simp [cnt]
      rw [e3,e2];simp only [List.length_cons];omega
    . obtain ⟨h1,h2⟩:=Zpg p (n+1 - min (n+1) s.2.length);have e3:cnt ((s.1,s.2.take (n+1))::Zbj p (n+1 - min (n+1) s.2.length))=(s.2.take (n+1)).length+cnt (Zbj p (n+1 - min (n+1) s.2.length)):=by simp [cnt]
      rw [e3,e2];simp only [List.length_cons,List.length_take];omega
theorem Zccn (two four:List Seg) (K:List Seg->Prop) (h2:two.length+cnt two <= 1000000) (h4:four.length+cnt four <= 1000000) (h:K (Zbv two four)):Zbde two four K:=by
  have l2:=Zkd two;have l4:=Zkd four;unfold Zbde;refine fun _=>Zbvs two _ (by omega) fun _ _=>Zbvs four _ (by omega) fun _=>?_
  rw [Ze (n:=(lenP two:Int) - (lenP four:Int)) (by omega) (by omega)]
  unfold Zbv at h;by_cases hlt:lenP two<lenP four;rw [if_pos hlt] at h;exact ifT (decide_eq_true (by omega)) fun _=>Zbbm two _ (by omega) fun _=>h
  rw [if_neg hlt] at h;have hsub:(lenP two:Int) - (lenP four:Int)=((lenP two - lenP four:Nat):Int):=by omega
  rw [hsub];refine ifF (decide_eq_false (by omega)) fun _=>Zbzb two _ _ (by omega) (by omega) fun _ _=>Zbbm four _ (by omega) fun _=>?_
  obtain ⟨f1,f2⟩:=Zpg two (lenP two - lenP four);generalize Zbj two (lenP two - lenP four)=out at*;have plain:Zew out four=out++four->Zkr out four false K:=fun e=>by unfold Zkr Zyx;rw [e] at h;exact ifF rfl ⟨by omega,h⟩
  rw [Ze (n:=(out.length:Int) - 1) (by omega) (by omega)]
  rcases List.eq_nil_or_concat out with rfl | ⟨init,s,rfl⟩;exact ifF (by rfl) (plain rfl)
  have hlast:(init++[s]).getLast? =some s:=by simp
  have hlen:(((init++[s]).length:Nat):Int) - 1=(init.length:Int):=by simp
  have hat:(init++[s])[init.length]? =some s:=by simp
  rw [List.concat_eq_append] at*;rw [hlen];refine ifT (decide_eq_true (by omega)) ?_
  cases four with
  | nil=>
    refine ifF (by rfl) (plain ?_)
    unfold Zew;rw [hlast]
  | cons t rest=>
    refine ifT (decide_eq_true (by simp only [List.length_cons];omega)) ⟨by omega,by simp only [List.length_append,List.length_cons,List.length_nil];omega,?_⟩
    rw [Int.toNat_natCast];refine AtN.of hat fun _=>IfB.intro (fun h5=>?_) (fun h5=>plain ?_)
    . refine ⟨by decide,by simp only [List.length_cons];omega,AtN.of rfl fun _=>?_⟩
      cases h6:t.1 with
      | true=>
        refine plain ?_;unfold Zew;rw [hlast];simp only [h6,Bool.not_true,Bool.and_false,Bool.false_eq_true,if_false]
      | false=>
        have hg:Zew (init++[s]) (t::rest)=init++(s.1,s.2++t.2)::rest:=by unfold Zew;rw [hlast];simp only [h5,h6,Bool.not_false,Bool.and_true,if_true,List.dropLast_concat]
        rw [hg] at h;have hs:=Zjz (p:=init++[s]) (s:=s) (by simp)
        have ht:=Zjz (p:=t::rest) (s:=t) (by simp)
        unfold Zkr;refine ifT rfl ?_;rw [Ze (n:=(((init++[s]).length:Nat):Int) - 1) (by omega) (by omega),hlen,Int.toNat_natCast]
        refine ⟨by omega,by simp only [List.length_append,List.length_cons,List.length_nil];omega,AtN.of hat fun _=>⟨by decide,by simp only [List.length_cons];omega,AtN.of rfl fun _ _=>Zckr [s.2,t.2] _ (by simp) (by simp;omega) fun _=>⟨by omega,by simp only [List.length_append,List.length_cons,List.length_nil];omega,AtN.of hat fun _=>⟨by decide,by simp only [List.length_cons];omega,?_⟩⟩⟩⟩
        unfold Zyx;have e1:(init++[s]).set init.length (s.1,[s.2,t.2].flatten)=init++[(s.1,s.2++t.2)]:=by rw [List.set_append_right _ _ (Nat.le_refl _),Nat.sub_self];simp
        rw [e1];refine ⟨by simp only [List.length_append,List.length_cons,List.length_nil,List.length_drop] at*;omega,of_eq h ?_⟩
        simp
    . have h5:s.1=true:=by simpa using h5
      unfold Zew;rw [hlast];simp only [h5,Bool.not_true,Bool.false_and,Bool.false_eq_true,if_false]
end Go.Proofs.YthdffaojeghaeaaGreatDoor
namespace Go.Proofs.YthdffaojeghaeaaGreatDoor
open Go.Sh
theorem Zccu: ∀n:Nat,n<256->n&&& 192=n/64*64:=by decide+kernel
theorem Zcjj (n:Nat):n&&& 16=16*(n/16%2):=Zcpv 4 n
theorem Zcer (x y z w:UInt8) (r:List UInt8) (K:Int->Prop) (h:K (numB [x,y,z,w])):Zbfk (x::y::z::w::r) K:=by
  have hx:=UInt8.toNat_lt x;have hy:=UInt8.toNat_lt y;have hz:=UInt8.toNat_lt z;have hw:=UInt8.toNat_lt w;unfold Zbfk;refine ⟨by decide,AtN.of rfl fun _=>⟨by decide,by decide,AtN.of rfl fun _=>⟨by decide,by decide,AtN.of rfl fun _=>⟨by decide,by decide,AtN.of rfl fun _=>of_eq h ?_⟩⟩⟩⟩
  rw [wu32 (a:=x.toNat) (by omega),wu32 (a:=y.toNat) (by omega),wu32 (a:=z.toNat) (by omega),wu32 (a:=w.toNat) (by omega),
    show (x.toNat:Int)*16777216=((2^24*x.toNat:Nat):Int) by omega,show (y.toNat:Int)*65536=((y.toNat*65536:Nat):Int) by omega,show (z.toNat:Int)*256=((z.toNat*256:Nat):Int) by omega,
    wu32 (a:=2^24*x.toNat) (by omega),wu32 (a:=y.toNat*65536) (by omega),wu32 (a:=z.toNat*256) (by omega)]
  rw [Zju .u32 _ _ (Zfv (by omega)) (Zfv (by omega)),Zpx 24 _ _ (by omega),wu32 (by omega)]
  rw [show 2^24*x.toNat+y.toNat*65536=2^16*(x.toNat*256+y.toNat) by omega,Zju .u32 _ _ (Zfv (by omega)) (Zfv (by omega)),Zpx 16 _ _ (by omega),wu32 (by omega)]
  rw [show 2^16*(x.toNat*256+y.toNat)+z.toNat*256=2^8*((x.toNat*256+y.toNat)*256+z.toNat) by omega,Zju .u32 _ _ (Zfv (by omega)) (Zfv (by omega)),Zpx 8 _ _ (by omega),wu32 (by omega)]
  simp only [numB,List.foldl_cons,List.foldl_nil];omega
def nxK (b:List UInt8) (K:(UInt8×Int×List UInt8×Int)->Bool->Prop):Prop:=match Zdy b with
  | some (fl,kd,d,n)=>K (UInt8.ofNat fl,(kd:Int),d,(n:Int)) true
  | none=>K (0,0,[],0) false
theorem Zcdm (b:List UInt8) (K:(UInt8×Int×List UInt8×Int)->Bool->Prop) (hl:b.length <= 1000000000) (h:nxK b K):Zbhp b K:=by
  unfold Zbhp;unfold nxK Zdy at h
  match b,hl,h with
  | [],_,h=>exact ifT rfl h
  | [_],_,h=>exact ifT rfl h
  | [_,_],_,h=>exact ifT rfl h
  | fl::kd::n1::r,hl,h=>
    have hf:=UInt8.toNat_lt fl;have hk:=UInt8.toNat_lt kd;have h1:=UInt8.toNat_lt n1;simp only [List.length_cons] at hl;have eF:(ofI .u8 (Zft .u8 (fl.toNat:Int) 192):UInt8)=UInt8.ofNat (fl.toNat/64*64):=by
      rw [show (192:Int)=((192:Nat):Int) from rfl,Zbbd .u8 _ _ (Zvm (by omega)) (Zvm (by decide)),Zccu _ (by omega)]
      have:IntKind.wrap .u8 ((fl.toNat/64*64:Nat):Int)=((fl.toNat/64*64:Nat):Int):=by rw [Zte];omega
      rw [this];show UInt8.ofNat (((fl.toNat/64*64:Nat):Int)).toNat=_;rw [Int.toNat_natCast]
    have eK:IntKind.wrap .i64 (kd.toNat:Int)=(kd.toNat:Int):=Ze (by omega) (by omega)
    have e16:Zft .u8 (fl.toNat:Int) 16=((16*(fl.toNat/16%2):Nat):Int):=by
      rw [show (16:Int)=((16:Nat):Int) from rfl,Zbbd .u8 _ _ (Zvm (by omega)) (Zvm (by decide)),Zcjj]
      rw [Zte];omega
    have tail: ∀(head n:Nat) (r':List UInt8),head <= 4->n <= 65535->(fl::kd::n1::r).length=head+r'.length->(fl::kd::n1::r).drop head=r'->(if n <= r'.length then K (UInt8.ofNat (fl.toNat/64*64),(kd.toNat:Int),r'.take n,((head+n:Nat):Int)) true else K (0,0,[],0) false)->Zvk (fl::kd::n1::r) (head:Int) (n:Int) K:=fun head n r' hh hn hlen hd hK=>by
      unfold Zvk;have hb:(fl::kd::n1::r).length <= 1000000000:=by simp only [List.length_cons];omega
      generalize hB:fl::kd::n1::r=B at*;rw [Ze (n:=(B.length:Int) - (head:Int)) (by omega) (by omega)]
      by_cases hc:n <= r'.length
      . rw [if_pos hc] at hK;have w:IntKind.wrap .i64 ((head:Int)+(n:Int))=((head+n:Nat):Int):=by rw [Ze (by omega) (by omega)];omega
        rw [w,Int.toNat_natCast,Int.toNat_natCast];refine ifT (decide_eq_true (by omega)) ⟨by decide,AtN.of (by rw [← hB];rfl) fun _=>⟨by decide,AtN.of (x:=kd) (by rw [← hB];rfl) fun _=>⟨by omega,by omega,by omega,by omega,?_⟩⟩⟩
        rw [eF,eK];have e9:(B.take (head+n)).drop head=r'.take n:=by rw [List.drop_take,hd,show head+n - head=n by omega]
        rw [e9];exact hK
      rw [if_neg hc] at hK;exact ifF (decide_eq_false (by omega)) hK
    refine ifF (decide_eq_false (by simp only [List.length_cons];omega)) ⟨by decide,AtN.of rfl fun _=>⟨by decide,AtN.of rfl fun _=>IfB.intro (fun h2=>?_) (fun h2=>?_)⟩⟩
    . have h2:fl.toNat/16%2=1:=by rw [e16] at h2;rcases Nat.mod_two_eq_zero_or_one (fl.toNat/16) with e | e;rw [e] at h2;simp at h2;exact e
      simp only at h;rw [if_pos h2] at h;cases r with
      | nil=>exact ifT rfl h
      | cons n2 r'=>
        have hn2:=UInt8.toNat_lt n2;simp only [List.length_cons] at hl;refine ifF (decide_eq_false (by simp only [List.length_cons];omega)) ⟨by decide,by decide,AtN.of rfl fun _=>?_⟩
        rw [Ze (n:=(n1.toNat:Int)) (by omega) (by omega),Ze (n:=(n2.toNat:Int)) (by omega) (by omega),show (n1.toNat:Int)*256=((n1.toNat*256:Nat):Int) by omega,Ze (n:=((n1.toNat*256:Nat):Int)) (by omega) (by omega),Zju .i64 _ _ (Zxa (by omega)) (Zxa (by omega)),Zty _ _ (by omega),Ze (n:=((n1.toNat*256+n2.toNat:Nat):Int)) (by omega) (by omega)]
        refine tail 4 (n1.toNat*256+n2.toNat) r' (by omega) (by omega) (by simp only [List.length_cons];omega) rfl ?_
        by_cases hc:n1.toNat*256+n2.toNat <= r'.length;simp only at h;rw [if_pos hc] at h ⊢;exact h;simp only at h;rw [if_neg hc] at h ⊢;exact h
    . have h2: ¬fl.toNat/16%2=1:=fun e=>by rw [e16,e] at h2;simp at h2
      simp only at h;rw [if_neg h2] at h;rw [Ze (n:=(n1.toNat:Int)) (by omega) (by omega)]
      refine tail 3 n1.toNat r (by omega) (by omega) (by simp only [List.length_cons];omega) rfl ?_
      by_cases hc:n1.toNat <= r.length;rw [if_pos hc] at h ⊢;exact h;rw [if_neg hc] at h ⊢;exact h
end Go.Proofs.YthdffaojeghaeaaGreatDoor
end
