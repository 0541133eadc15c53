/-
 Gathered by a program of ours out of: /tmp/P20f.lean.
-/
import Derived.Test.YthhcfdpoiganhaaGreatED
import Derived.Test.YthhcfdpoiganhaaGreatQA2
set_option linter.all false
section
set_option maxRecDepth 100000
namespace Go.Proofs.YthhcfdpoiganhaaGreat
open Go.Sh
def cnt (p:List Seg):Nat:=(p.map (·.2.length)).sum
theorem Zbxm (p:List Seg) (s:Seg):cnt (p++[s])=cnt p+s.2.length:=by simp [cnt]
theorem Zcto (p:List Seg) (K:Int->Prop) (hl:p.length <= 9223372036854775807) (hc:cnt p <= 9223372036854775807) (h:K (cnt p)):Zbhd p K:=by
 unfold Zbhd;refine Zl.list p (fun pre=>((cnt pre:Int),(pre.length:Int),())) (fun _=>True) rfl trivial (fun pre s post hp _ next hn=>?_) (fun _ next _=>?_)
 ·intro _;dsimp only [Zbnd];refine ifT (by simp [hp];omega) ⟨by omega,AtN.of (Zbe hp) fun _=>of_eq (hn trivial) ?_⟩
  have h1:p.length=pre.length+1+post.length:=by rw [hp];simp;omega
  have h2:cnt p=cnt pre+s.2.length+cnt post:=by rw [hp];simp [cnt];omega
  rw [Zh (by omega) (by omega),Zh (by omega) (by omega),Zbxm]
  simp
 dsimp only [Zbnd];exact ifF (by simp) h
theorem Zdhu (l:List UInt32) (v:Int) (K:Int->Prop) (hl:l.length <= 9223372036854775807) (h1: ∀i:Nat,(∃x∈l,(x.toNat:Int)=v)->K i) (h2:(∀x∈l,(x.toNat:Int)≠v)->K (-1)):Zbdo l v K:=by
 unfold Zbdo;refine Zl.list l (fun pre=>((pre.length:Int),())) (fun pre=>∀x∈pre,(x.toNat:Int)≠v) rfl (by simp) (fun pre x post hp hP next hn=>?_) (fun hP next _=>?_)
 ·intro _;dsimp only [Zbpr];refine ifT (by simp [hp];omega) ⟨by omega,AtN.of (Zbe hp) fun _=>?_⟩
  refine IfB.intro (fun h=>?_) (fun h=>?_);exact h1 pre.length ⟨x,by simp [hp],by simpa using (by simpa using h:v=(x.toNat:Int)).symm⟩
  ·have hne:v≠(x.toNat:Int):=by simpa using h
   refine of_eq (hn fun y hy=>?_) ?_;rcases Yw.1 hy with hy | hy;exact hP y hy;simp only [YB] at hy;subst hy;exact fun e=>hne e.symm
   ·have h1:l.length=pre.length+1+post.length:=by rw [hp];simp;omega
    rw [Zh (by omega) (by omega)]
    simp
 dsimp only [Zbpr];exact ifF (by simp) (h2 hP)
theorem Zcym (l:List UInt32) (v:Int) (K:Bool->Prop) (hl:l.length <= 9223372036854775807) (h:K (l.any fun x=>(x.toNat:Int)==v)):Zbey l v K:=by
 unfold Zbey;intro _;refine Zdhu l v _ hl (fun i hx _=>of_eq h ?_) (fun hx _=>of_eq h ?_)
 ·obtain ⟨x,hx,hv⟩:=hx;rw [YNa.2 ⟨x,hx,by simp [hv]⟩]
  simp
 ·have:(l.any fun x=>(x.toNat:Int)==v)=false:=by rw [List.any_eq_false];intro x h;simpa using hx x h
  rw [this];rfl
theorem Zdfa (x:UInt32):(x !=0)= !((x.toNat:Int)==0):=by
 by_cases h:x=0;subst h;rfl
 ·have:x.toNat≠0:=fun e=>h (YWa.1 e);have h2:((x.toNat:Int)==0)=false:=by simpa using this
  rw [h2];simp [h]
def Zfm (s:Seg):Bool:=decide (0<s.2.length)&&decide (s.2.length <= 255)&&s.2.all fun x=>x !=0
theorem Zcug (s:Seg) (K:Bool->Prop) (h:K (Zfm s)):Zxh s K:=by
 unfold Zxh;refine IfB.intro (fun h1=>IfB.intro (fun h2=>?_) (fun h2=>of_eq h ?_)) (fun h1=>of_eq h ?_)
 ·intro _;have h1:0<s.2.length:=by simpa using h1
  have h2:s.2.length <= 255:=by simp at h2;omega
  refine Zcym s.2 0 _ (by omega) (fun _=>of_eq h ?_)
  have e:(s.2.all fun x=>x !=0)= !(s.2.any fun x=>(x.toNat:Int)==0):=by rw [List.not_any_eq_all_not];congr 1;funext x;exact Zdfa x
  simp [Zfm,h1,h2,e]
 ·have: ¬s.2.length <= 255:=by simp at h2;omega
  simp [Zfm,this]
 ·have: ¬0<s.2.length:=by simp at h1;simp [h1]
  simp [Zfm,this]
def Zbh (p:List Seg):Bool:=p.all Zfm&&decide (cnt p <= 64)
def Zhm (b:Bool):Int:=if b then 0 else 2
theorem Zwg (p:List Seg) (K:Int->Prop) (hl:p.length <= 9223372036854775807) (hc:cnt p <= 9223372036854775807) (h:K (Zhm (Zbh p))):Zop p K:=by
 unfold Zop;refine Zl.over p (fun pre=>((pre.length:Int),())) (fun pre=>pre.all Zfm=true) rfl rfl (fun pre s post hp hn hP next hx=>?_) (fun hP next _=>?_)
 ·intro _;dsimp only [Zbqy];refine ifT (decide_eq_true (by omega)) ⟨by omega,AtN.of (Zbe hp) fun _ _=>?_⟩
  refine Zcug s _ fun _=>IfB.intro (fun h1=>of_eq h ?_) (fun h1=>of_eq (hx ?_) ?_)
  ·have:p.all Zfm=false:=by rw [hp];simp at h1;simp [h1]
   simp [Zbh,this,Zhm]
  simp at h1;simp [h1];simpa using hP
  ·rw [Zh (by omega) (by omega)];simp
 ·dsimp only [Zbqy];refine ifF (decide_eq_false (by omega)) fun _=>Zcto p _ hl hc fun _=>IfB.intro (fun h1=>of_eq h ?_) (fun h1=>of_eq h ?_)
  ·have: ¬cnt p <= 64:=by simp at h1;omega
   simp [Zbh,this,Zhm]
  ·have:cnt p <= 64:=by simp at h1;omega
   rw [Zbh,hP,decide_eq_true this];rfl
theorem Zdpk (pre post:List Seg) (s:Seg):cnt (pre++s::post)=cnt pre+s.2.length+cnt post:=by simp [cnt];omega
def Zbm (four:Bool) (x:UInt32):List UInt8:=if four then be4 x.toNat else be2 (if x.toNat>65535 then 23456 else x.toNat)
def Ztj (four:Bool) (s:Seg):List UInt8:=[if s.1 then 1 else 2,UInt8.ofNat s.2.length]++s.2.flatMap (Zbm four)
def Zbo (four:Bool) (p:List Seg):List UInt8:=p.flatMap (Ztj four)
theorem Zzf (four:Bool) (x:UInt32):(Zbm four x).length <= 4:=by unfold Zbm;split<;>simp [be4,be2]
theorem Zbmn (four:Bool): ∀l:List UInt32,(l.flatMap (Zbm four)).length <= 4*l.length
 | []=>by simp
 | x::l=>by have h1:=Zzf four x;have h2:=Zbmn four l;simp only [Y5,Yb,List.length_cons];omega
theorem Zbhu (four:Bool): ∀p:List Seg,(Zbo four p).length <= 2*p.length+4*cnt p
 | []=>by simp [Zbo]
 | s::p=>by
  have h1:=Zbmn four s.2;have h2:=Zbhu four p;have h3:cnt (s::p)=s.2.length+cnt p:=by simp [cnt]
  have h4:(Zbo four (s::p)).length=2+(s.2.flatMap (Zbm four)).length+(Zbo four p).length:=by simp [Zbo,Ztj];omega
  simp only [List.length_cons];omega
theorem Zbhs: ∀p:List Seg,p.all Zfm=true->p.length <= cnt p
 | [],_=>by simp
 | s::p,h=>by
  simp only [List.all_cons,Ya] at h;have h1:=Zbhs p h.2;have h2:0<s.2.length:=by have:=h.1;simp only [Zfm,Ya,decide_eq_true_eq] at this;exact this.1.1
  have h3:cnt (s::p)=s.2.length+cnt p:=by simp [cnt]
  simp only [List.length_cons];omega
theorem Zdcc (four:Bool) (p:List Seg) (s:Seg):Zbo four (p++[s])=Zbo four p++Ztj four s:=by simp [Zbo]
theorem Zdbp {four:Bool} {p pre post:List Seg} {s:Seg} (hp:p=pre++s::post) (hok:Zbh p=true):(Zbo four pre).length+4*s.2.length+10 <= 1000:=by
 simp only [Zbh,Ya,decide_eq_true_eq] at hok;have h1:=Zbhs p hok.1;have h2:=Zbhu four pre;have h3:=Zdpk pre post s;rw [← hp] at h3;have h4:pre.length <= p.length:=by rw [hp];simp
 omega
theorem Zdij (x:UInt32):Zbm true x= [UInt8.ofNat (x.toNat/16777216),UInt8.ofNat (x.toNat/65536),UInt8.ofNat (x.toNat/256),UInt8.ofNat x.toNat]:=rfl
theorem Zcoa (s:Seg) (K:Int->Prop) (h:K (if s.1 then 1 else 2)):Zbga s K:=by unfold Zbga;refine IfB.intro (fun h1=>of_eq h ?_) (fun h1=>of_eq h ?_)<;>simp [h1]
theorem Zcdg (p:List Seg) (four:Bool) (K:List UInt8->Int->Prop) (hl:p.length <= 9223372036854775807) (hc:cnt p <= 9223372036854775807) (h:K (if Zbh p then Zbo four p else []) (Zhm (Zbh p))):Zup p four K:=by
 unfold Zup;intro _;refine Zwg p _ hl hc fun _=>IfB.intro (fun h1=>?_) (fun h1=>?_)
 ·have:Zbh p=false:=by cases hb:Zbh p<;>simp [Zhm,hb] at h1 ⊢
  rw [this] at h ⊢;exact h
 ·have hok:Zbh p=true:=by cases hb:Zbh p<;>simp [Zhm,hb] at h1 ⊢
  rw [hok] at h;refine Zl.over p (fun pre=>(Zbo four pre,(pre.length:Int),())) (fun _=>True) rfl trivial (fun pre s post hp hn _ next hx=>?_) (fun _ next _=>?_)
  ·intro _;dsimp only [Zbmu];have hsh:=Zdbp (four:=four) hp hok;refine ifT (decide_eq_true (by omega)) ⟨by omega,AtN.of (Zbe hp) fun _ _=>Zcoa s _ fun _=>⟨by simp only [List.length_cons,List.length_nil];omega,?_⟩⟩
   refine Zl.over s.2 (fun l=>(Zbo four pre++[if s.1 then 1 else 2,UInt8.ofNat s.2.length]++l.flatMap (Zbm four),(l.length:Int),())) (fun _=>True) ?_ trivial (fun l x r hs hm _ next' hy=>?_) (fun _ next' _=>?_)
   rw [of8w];cases s.1<;>simp [ofI]
   ·intro _;dsimp only [Zbil];have h5:=Zbmn four l;refine ifT (decide_eq_true (by omega)) ⟨by omega,AtN.of (Zbe hs) fun _=>IfB.intro (fun h1=>?_) (fun h1=>IfB.intro (fun h2=>?_) (fun h2=>?_))⟩
    ·refine ⟨by omega,by omega,by simp only [Yb,List.length_cons,List.length_nil];omega,by decide,by simp only [Yb,List.length_cons,List.length_nil];omega,?_⟩
     dsimp only [Zxl];refine of_eq (hy trivial) ?_;rw [Zh (by omega) (by omega),Zul,Zbsi,Zcik,of8w,of8w,of8w,of8w]
     simp [h1,Zdij]
    ·refine ⟨by decide,by simp only [Yb,List.length_cons,List.length_nil];omega,?_⟩
     dsimp only [Zxl];refine of_eq (hy trivial) ?_;have h2:x.toNat>65535:=by simp at h2;omega
     rw [Zh (by omega) (by omega)]
     simp [h1,Zbm,h2,be2];decide
    ·refine ⟨by decide,by simp only [Yb,List.length_cons,List.length_nil];omega,?_⟩
     dsimp only [Zxl];refine of_eq (hy trivial) ?_;have h2: ¬x.toNat>65535:=by simp at h2;omega
     rw [Zh (by omega) (by omega),Zul,of8w,of8w]
     simp [h1,Zbm,h2,be2]
   ·dsimp only [Zbil];refine ifF (decide_eq_false (by omega)) (of_eq (hx trivial) ?_)
    rw [Zh (by omega) (by omega),Zdcc]
    simp [Ztj]
  dsimp only [Zbmu];exact ifF (decide_eq_false (by omega)) h
def Zfk (k:Int):Bool:=k==1||k==2||k==3||k==4||k==5||k==6||k==7||k==8||k==17||k==18
def Zcq (k:Int):Int:=if k=1∨k=2∨k=3∨k=5∨k=6 then 64 else if k=4 then 128 else if k=7∨k=8∨k=17∨k=18 then 192 else 0
theorem Zcft (n:Int) (K:Bool->Prop) (h:K (decide (n≠0∧n<3758096384))):Zbbw n K:=by unfold Zbbw;refine IfB.intro (fun h1=>of_eq h ?_) (fun h1=>of_eq h ?_)<;>simp_all
theorem Zbkn (k:Int) (K:Int->Bool->Prop) (h:K (Zcq k) (Zfk k)):Ztx k K:=by
 by_cases h1:k=1;· subst h1;exact h
 by_cases h2:k=2;· subst h2;exact h
 by_cases h3:k=3;· subst h3;exact h
 by_cases h5:k=5;· subst h5;exact h
 by_cases h6:k=6;· subst h6;exact h
 by_cases h4:k=4;· subst h4;exact h
 by_cases h7:k=7;· subst h7;exact h
 by_cases h8:k=8;· subst h8;exact h
 by_cases h17:k=17;· subst h17;exact h
 by_cases h18:k=18;· subst h18;exact h
 have e: ∀n:Int,k≠n->(k==n)=false:=fun n hn=>by simpa using hn
 have ef:Zcq k=0:=by simp [Zcq,h1,h2,h3,h4,h5,h6,h7,h8,h17,h18]
 have ek:Zfk k=false:=by simp [Zfk,h1,h2,h3,h4,h5,h6,h7,h8,h17,h18]
 rw [ef,ek] at h;simp only [Ztx,Znk,Zbxg,Zpi,e 1 h1,e 2 h2,e 3 h3,e 4 h4,e 5 h5,e 6 h6,e 7 h7,e 8 h8,e 17 h17,e 18 h18,IfB];exact h
def Zcj:Int->List Raw->Bool
 | _,[]=>true
 | last,x::l=>(!Zfk x.1&&decide (last<x.1)&&decide (x.1 <= 255)&&decide (x.2.length <= 255))&&Zcj x.1 l
def lastOf:Int->List Raw->Int
 | last,[]=>last
 | _,x::l=>lastOf x.1 l
theorem Zvi: ∀(l l':List Raw) (last:Int),Zcj last (l++l')=(Zcj last l&&Zcj (lastOf last l) l')
 | [],l',last=>by simp [Zcj,lastOf]
 | x::l,l',last=>by simp only [List.cons_append,Zcj,lastOf,Zvi l l' x.1,Bool.and_assoc]
theorem Zcgc: ∀(l:List Raw) (x:Raw) (last:Int),lastOf last (l++[x])=x.1
 | [],x,last=>rfl
 | y::l,x,last=>by simp only [List.cons_append,lastOf];exact Zcgc l x y.1
theorem Zdia (l:List Raw) (K:Bool->Prop) (hl:l.length <= 9223372036854775807) (h:K (Zcj (-1) l&&decide (l.length <= 8))):Zbcv l K:=by
 unfold Zbcv;refine Zl.over l (fun pre=>(lastOf (-1) pre,(pre.length:Int),())) (fun pre=>Zcj (-1) pre=true) rfl rfl (fun pre x post hp hn hP next hx=>?_) (fun hP next _=>?_)
 ·intro _;dsimp only [Zbnz,Zuy];have good:Zcj (lastOf (-1) pre) [x]=true->next (x.1,IntKind.wrap .i64 ((pre.length:Int)+1),()):=fun hg=>by
   refine of_eq (hx (by rw [Zvi,hP,hg];rfl)) ?_
   rw [Zcgc,Zh (by omega) (by omega)];simp
  have bad:Zcj (lastOf (-1) pre) [x]=false->K false:=fun hb=>of_eq h (by
   have e:pre++x::post=(pre++[x])++post:=by simp
   rw [hp,e,Zvi,Zvi,hb];simp)
  refine ifT (decide_eq_true (by omega)) ⟨by omega,AtN.of (Zbe hp) fun _ _=>?_⟩
  refine Zbkn x.1 _ fun _=>IfB.intro (fun h1=>bad ?_) (fun h1=>IfB.intro (fun h2=>bad ?_) (fun h2=>IfB.intro (fun h3=>bad ?_) (fun h3=>IfB.intro (fun h4=>bad ?_) (fun h4=>good ?_))));simp [Zcj,h1]
  ·have h2: ¬lastOf (-1) pre<x.1:=by simp at h2;omega
   simp [Zcj,h2]
  ·have h3: ¬x.1 <= 255:=by simp at h3;omega
   simp [Zcj,h3]
  ·have h4: ¬x.2.length <= 255:=by simp at h4;omega
   simp [Zcj,h4]
  ·have h2:lastOf (-1) pre<x.1:=by simp at h2;omega
   have h3:x.1 <= 255:=by simp at h3;omega
   have h4:x.2.length <= 255:=by simp at h4;omega
   simp [Zcj,h1,h2,h3,h4]
 ·dsimp only [Zbnz];refine ifF (decide_eq_false (by omega)) (of_eq h ?_)
  rw [hP,YT];congr 1;apply propext;omega
def Zdh (a:Za):Bool:=decide (0 <= a.origin)&&decide (a.origin <= 2)&&Zbh a.path&&decide ((a.next.toNat:Int)≠0∧(a.next.toNat:Int)<3758096384)&& !(a.hasMaker&&(a.makerAS.toNat:Int)==0)&&decide (a.comms.length <= 32)&&(Zcj (-1) a.others&&decide (a.others.length <= 8))
theorem Zble (b:Bool):(Zhm b !=0)= !b:=by cases b<;>rfl
theorem Zcej (a:Za) (K:Int->Prop) (hl:a.path.length <= 9223372036854775807) (hc:cnt a.path <= 9223372036854775807) (ho:a.others.length <= 9223372036854775807) (h:K (Zhm (Zdh a))):Zue a K:=by
 obtain ⟨origin,path,nxt,hasMed,med,hasLocal,loc,atomic,hasMaker,makerAS,maker,comms,others⟩:=a;have bad:Zdh (origin,path,nxt,hasMed,med,hasLocal,loc,atomic,hasMaker,makerAS,maker,comms,others)=false->K 2:=fun hb=>of_eq h (by rw [hb];rfl)
 unfold Zue;simp only [Zdh,Za.origin,Za.path,Za.next,Za.hasMaker,Za.makerAS,Za.comms,Za.others] at*;refine IfB.intro (fun h1=>bad ?_) (fun h1=>IfB.intro (fun h2=>bad ?_) (fun h2=>?_))
 ·have: ¬0 <= origin:=by simp at h1;omega
  simp [this]
 ·have: ¬origin <= 2:=by simp at h2;omega
  simp [this]
 have h1:0 <= origin:=by simp at h1;omega
 have h2:origin <= 2:=by simp at h2;omega
 intro _;refine Zwg path _ hl hc fun _=>?_;dsimp only [Zbdy];rw [Zble];refine IfB.intro (fun h3=>bad ?_) (fun h3 _=>?_)
 ·have:Zbh path=false:=by simpa using h3
  simp [this]
 have h3:Zbh path=true:=by simpa using h3
 refine Zcft _ _ fun _=>?_;refine IfB.intro (fun h4=>bad ?_) (fun h4=>?_)
 ·have:decide ((nxt.toNat:Int)≠0∧(nxt.toNat:Int)<3758096384)=false:=by simpa only [YF,Y2a] using h4
  simp only [this,YVa,Yka]
 have h4:decide ((nxt.toNat:Int)≠0∧(nxt.toNat:Int)<3758096384)=true:=by simpa only [YF,Y2a] using h4
 have rest:(hasMaker&&(makerAS.toNat:Int)==0)=false->Zos (origin,path,nxt,hasMed,med,hasLocal,loc,atomic,hasMaker,makerAS,maker,comms,others) false K:=fun h5=>by
  dsimp only [Zos,Zbnu];refine ifF rfl (IfB.intro (fun h6=>bad ?_) (fun h6 _=>Zdia others _ ho fun _=>?_))
  ·have: ¬comms.length <= 32:=by simp at h6;omega
   simp [this]
  ·have h6:comms.length <= 32:=by simp at h6;omega
   refine of_eq (next:=fun b=>IfB (!b) (K 2) (K 0)) ?_ rfl
   refine IfB.intro (fun h7=>bad ?_) (fun h7=>of_eq h ?_)
   ·have h7:(Zcj (-1) others&&decide (others.length <= 8))=false:=by simpa only [YF,Y2a] using h7
    rw [h7,YVa]
   ·have h7:(Zcj (-1) others&&decide (others.length <= 8))=true:=by simpa only [YF,Y2a] using h7
    rw [h7,h3,h4,h5,decide_eq_true h1,decide_eq_true h2,decide_eq_true h6];rfl
 refine IfB.intro (fun h5=>?_) (fun h5=>rest ?_)
 ·cases h6:((makerAS.toNat:Int)==0) with
  | true=>
   dsimp only [Zos];refine ifT rfl (bad ?_);have:(hasMaker&&(makerAS.toNat:Int)==0)=true:=by rw [h6,Ygb];exact h5
   simp only [this,Yha,YVa,Yka]
  | false=>exact rest (by rw [h6,YVa])
 have h5:hasMaker=false:=h5;rw [h5,Yka]
theorem Zdnw (n:Int) (K:List UInt8->Prop) (h0:0 <= n) (hn:n <= 1000000000) (h:K []):Zbhh n K:=by
 unfold Zbhh;have e:IntKind.wrap .i64 (n - IntKind.wrap .i64 (0 - 0))=n:=by
  rw [Zh (n:=0 - 0) (by omega) (by omega)]
  exact Zh (by omega) (by omega) |>.trans (by omega)
 rw [e];refine ifF (decide_eq_false (by omega)) (IfB.intro (fun h1=>?_) (fun _=>h))
 have h1:0<n:=by simpa using h1
 exact ⟨by omega,by omega,h1,hn,by omega,by omega,by simpa using h⟩
theorem Zcjn {pre post:List (List UInt8)} {x:List UInt8}:(pre++x::post).flatten.length=pre.flatten.length+x.length+post.flatten.length:=by simp;omega
theorem Zus (l:List (List UInt8)) (K:List UInt8->Prop) (hl:l.length <= 1000000000) (hf:l.flatten.length <= 1000000000) (h:K l.flatten):Zka l K:=by
 unfold Zka;refine Zl.over l (fun pre=>((pre.flatten.length:Int),(pre.length:Int),())) (fun _=>True) rfl trivial (fun pre x post hp hn _ next hx=>?_) (fun _ next _=>?_)
 ·intro _;dsimp only [Zbie];have hs:=Zcjn (pre:=pre) (x:=x) (post:=post);rw [← hp] at hs;refine ifT (decide_eq_true (by omega)) ⟨by omega,AtN.of (Zbe hp) fun _=>?_⟩
  rw [Zh (n:=(pre.flatten.length:Int)+x.length) (by omega) (by omega)]
  refine ifF (decide_eq_false (by omega)) (of_eq (hx trivial) ?_)
  rw [Zh (by omega) (by omega)]
  simp
 ·dsimp only [Zbie];refine ifF (decide_eq_false (by omega)) fun _=>Zdnw _ _ (by omega) (by omega) fun _=>?_
  refine Zl.over l (fun pre=>(pre.flatten,(pre.length:Int),())) (fun _=>True) rfl trivial (fun pre x post hp hn _ next hx=>?_) (fun _ next _=>?_)
  ·intro _;dsimp only [Zbly];have hs:=Zcjn (pre:=pre) (x:=x) (post:=post);rw [← hp] at hs;refine ifT (decide_eq_true (by omega)) ⟨by omega,AtN.of (Zbe hp) fun _=>⟨by omega,of_eq (hx trivial) ?_⟩⟩
   rw [Zh (by omega) (by omega)]
   simp
  dsimp only [Zbly];exact ifF (decide_eq_false (by omega)) h
def attB (fl kind:Int) (data:List UInt8):List UInt8:=
 (if 255<data.length then [ofI .u8 (fl+16),ofI .u8 (IntKind.wrap .u8 kind),UInt8.ofNat (data.length/256),UInt8.ofNat data.length] else [ofI .u8 fl,ofI .u8 (IntKind.wrap .u8 kind),UInt8.ofNat data.length])++data
theorem Zeo (fl kind:Int) (data:List UInt8):(attB fl kind data).length <= data.length+4:=by unfold attB;split<;>simp
def okFl (fl:Int):Prop:=fl=64∨fl=128∨fl=192∨fl=224
theorem Zcoy {fl:Int} (h:okFl fl):Zbz .u8 fl 16=fl+16:=by rcases h with rfl | rfl | rfl | rfl<;>decide
theorem Zche (c:List UInt8) (fl kind:Int) (parts:List (List UInt8)) (K:List UInt8->Prop) (hf:okFl fl) (hp:parts.length <= 1000) (hl:parts.flatten.length <= 100000) (hc:c.length <= 100000) (h:K (c++attB fl kind parts.flatten)):Zoa c fl kind parts K:=by
 unfold Zoa;intro _;refine Zus parts _ (by omega) (by omega) fun _=>?_
 rw [Zcoy hf];refine IfB.intro (fun h1=>?_) (fun h1=>?_)
 ·have h1:255<parts.flatten.length:=by simp only [decide_eq_true_eq] at h1;omega
  refine ⟨by decide,by simp only [List.length_cons,List.length_nil];omega,?_⟩
  refine ⟨by simp only [Yb,List.length_cons,List.length_nil];omega,of_eq h ?_⟩
  rw [Zul,of8w,of8w,attB,if_pos h1,Yu]
 ·have h1: ¬255<parts.flatten.length:=by simp only [decide_eq_false_iff_not] at h1;omega
  refine ⟨by simp only [List.length_cons,List.length_nil];omega,?_⟩
  refine ⟨by simp only [Yb,List.length_cons,List.length_nil];omega,of_eq h ?_⟩
  rw [of8w,attB,if_neg h1,Yu]
theorem Zjf (c:List UInt8) (kind:Int) (parts:List (List UInt8)) (K:List UInt8->Prop) (hf:okFl (Zcq kind)) (hp:parts.length <= 1000) (hl:parts.flatten.length <= 100000) (hc:c.length <= 100000) (h:K (c++attB (Zcq kind) kind parts.flatten)):Zgb c kind parts K:=by unfold Zgb;intro _;exact Zbkn kind _ fun _ _ _=>Zche c _ kind parts _ hf hp hl hc fun _ _=>h
theorem Ziz (n:Nat) (K:List UInt8->Prop) (h:K (be4 n)):Zhp (n:Int) K:=by
 unfold Zhp;refine ⟨by decide,by decide,by decide,of_eq h ?_⟩
 rw [Zul,Zbsi,Zcik,of8w,of8w,of8w,of8w];rfl
theorem Zdna (x:UInt32) (four:Bool) (K:List UInt8->Prop) (h:K (Zbm four x)):Zbgu (x.toNat:Int) four K:=by
 unfold Zbgu;refine IfB.intro (fun h1 _=>Ziz _ _ fun _=>of_eq h ?_) (fun h1=>IfB.intro (fun h2=>?_) (fun h2=>?_));rw [h1];rfl
 ·have h2:x.toNat>65535:=by simp only [decide_eq_true_eq] at h2;omega
  dsimp only [Zbdt];exact fun _=>Ziz 23456 _ fun _=>⟨by decide,by decide,of_eq h (by simp [Zbm,h1,h2,be2,be4])⟩
 ·have h2: ¬x.toNat>65535:=by simp only [decide_eq_false_iff_not] at h2;omega
  dsimp only [Zbdt];exact fun _=>Ziz _ _ fun _=>⟨by decide,by simp only [Zdz];decide,of_eq h (by simp [Zbm,h1,h2,be2,be4])⟩
def Zke (four:Bool) (a:Za):List UInt8:=
 (if a.hasMed then attB 128 4 (be4 a.med.toNat) else [])++((if a.atomic then attB 64 6 [] else [])++((if a.hasMaker then attB 192 7 (Zbm four a.makerAS++be4 a.maker.toNat) else [])++if 0<a.comms.length then attB 192 8 (a.comms.flatMap fun x=>be4 x.toNat) else []))
theorem Zty: ∀l:List UInt32,(l.flatMap fun x=>be4 x.toNat).length=4*l.length
 | []=>rfl
 | x::l=>by simp only [Y5,Yb,List.length_cons,Zty l,Zdz];omega
theorem Zcko (four:Bool) (a:Za):(Zke four a).length <= 4*a.comms.length+100:=by unfold Zke;have h1:=Zeo 128 4 (be4 a.med.toNat);have h2:=Zeo 64 6 [];have h3:=Zeo 192 7 (Zbm four a.makerAS++be4 a.maker.toNat);have h4:=Zeo 192 8 (a.comms.flatMap fun x=>be4 x.toNat);have h5:=Zzf four a.makerAS;rw [Zty] at h4;simp only [Yb,Zdz,List.length_nil] at*;split<;>split<;>split<;>split<;>(try simp only [List.length_nil])<;>omega
theorem Zcnv (c:List UInt8) (a:Za) (four:Bool) (K:List UInt8->Prop) (hc:c.length <= 10000) (hm:a.comms.length <= 100) (h:K (c++Zke four a)):Zuu c a four K:=by
 obtain ⟨origin,path,nxt,hasMed,med,hasLocal,loc,atomic,hasMaker,makerAS,maker,comms,others⟩:=a;simp only [Zke,Za.hasMed,Za.med,Za.atomic,Za.hasMaker,Za.makerAS,Za.maker,Za.comms] at*;have s3: ∀(c:List UInt8),c.length <= 20000->K (c++if 0<comms.length then attB 192 8 (comms.flatMap fun x=>be4 x.toNat) else [])->Zbgi (origin,path,nxt,hasMed,med,hasLocal,loc,atomic,hasMaker,makerAS,maker,comms,others) c K:=fun c hc h=>by
  dsimp only [Zbgi];refine IfB.intro (fun h1=>?_) (fun h1=>of_eq h ?_)
  ·have h1:0<comms.length:=by simpa using h1
   rw [if_pos h1] at h;refine Zl.over comms (fun pre=>(pre.map fun x=>be4 x.toNat,(pre.length:Int),())) (fun _=>True) rfl trivial (fun pre x post hp hn _ next hx=>?_) (fun _ next _=>?_)
   ·intro _;dsimp only [Zbqz];refine ifT (decide_eq_true (by omega)) ⟨by omega,AtN.of (Zbe hp) fun _ _=>Ziz _ _ fun _=>⟨by simp only [Yz,List.length_cons,List.length_nil];omega,of_eq (hx trivial) ?_⟩⟩
    rw [Zh (by omega) (by omega)]
    simp
   ·dsimp only [Zbqz];have e:(comms.map fun x=>be4 x.toNat).flatten=comms.flatMap fun x=>be4 x.toNat:=by simp [List.flatMap]
    have hfl:=Zty comms;refine ifF (decide_eq_false (by omega)) fun _ _=>Zjf c 8 _ _ (.inr (.inr (.inl rfl))) (by simp;omega) (by rw [e];omega) (by omega) fun _ _=>of_eq h ?_
    rw [e];rfl
  ·have h1: ¬0<comms.length:=by simp at h1;simp [h1]
   rw [if_neg h1,Yv]
 have s2: ∀(c:List UInt8),c.length <= 15000->K (c++((if hasMaker then attB 192 7 (Zbm four makerAS++be4 maker.toNat) else [])++if 0<comms.length then attB 192 8 (comms.flatMap fun x=>be4 x.toNat) else []))->Zbhn four (origin,path,nxt,hasMed,med,hasLocal,loc,atomic,hasMaker,makerAS,maker,comms,others) c K:=fun c hc h=>by
  dsimp only [Zbhn];have hl:=Zzf four makerAS;have hb:=Zeo 192 7 (Zbm four makerAS++be4 maker.toNat);simp only [Yb,Zdz] at hb;refine IfB.intro (fun h1 _=>Zdna _ _ _ fun _ _=>Ziz _ _ fun _ _ _=>Zjf c 7 _ _ (.inr (.inr (.inl rfl))) (by simp) ?_ (by omega) fun _ _=>s3 _ ?_ (of_eq h ?_)) (fun h1=>s3 _ (by omega) (of_eq h ?_))
  simp only [List.flatten_cons,List.flatten_nil,Yv,Yb,Zdz];omega;simp only [List.flatten_cons,List.flatten_nil,Yv,Yb];have:Zcq 7=192:=rfl;rw [this];omega;rw [if_pos h1,← Yu];simp only [List.flatten_cons,List.flatten_nil,Yv];rfl;rw [h1];simp
 have s1: ∀(c:List UInt8),c.length <= 12000->K (c++((if atomic then attB 64 6 [] else [])++((if hasMaker then attB 192 7 (Zbm four makerAS++be4 maker.toNat) else [])++if 0<comms.length then attB 192 8 (comms.flatMap fun x=>be4 x.toNat) else [])))->Zbfc four (origin,path,nxt,hasMed,med,hasLocal,loc,atomic,hasMaker,makerAS,maker,comms,others) c K:=fun c hc h=>by
  dsimp only [Zbfc];have hb:=Zeo 64 6 [];simp only [List.length_nil] at hb;refine IfB.intro (fun h1 _ _=>Zjf c 6 _ _ (.inl rfl) (by decide) (by decide) (by omega) fun _ _=>s2 _ ?_ (of_eq h ?_)) (fun h1=>s2 _ (by omega) (of_eq h ?_))
  have:Zcq 6=64:=rfl;rw [this];simp only [Yb,List.flatten_nil];omega;rw [if_pos h1,← Yu];rfl;rw [h1];simp
 dsimp only [Zuu];have hb:=Zeo 128 4 (be4 med.toNat);simp only [Zdz] at hb;refine IfB.intro (fun h1 _=>Ziz _ _ fun _ _ _=>Zjf c 4 _ _ (.inr (.inl rfl)) (by simp) ?_ (by omega) fun _ _=>s1 _ ?_ (of_eq h ?_)) (fun h1=>s1 _ (by omega) (of_eq h ?_))
 simp [Zdz];simp only [List.flatten_cons,List.flatten_nil,Yv,Yb];have:Zcq 4=128:=rfl;rw [this];omega;rw [if_pos h1,← Yu];simp only [List.flatten_cons,List.flatten_nil,Yv];rfl;rw [h1];simp
def Zbx (x:UInt32):Bool:=decide (65535<x.toNat)
def Zcz (p:List Seg):Bool:=p.any fun s=>s.2.any Zbx
theorem Zcdn (x:UInt32):decide ((x.toNat:Int)>65535)=Zbx x:=by unfold Zbx;congr 1;apply propext;omega
theorem Zcmp (l:List UInt32) (K:Int->Prop) (hl:l.length <= 9223372036854775807) (h1: ∀i:Nat,l.any Zbx=true->K i) (h2:l.any Zbx=false->K (-1)):Zwt l K:=by
 unfold Zwt;refine Zl.over l (fun pre=>((pre.length:Int),())) (fun pre=>pre.any Zbx=false) rfl rfl (fun pre x post hp hn hP next hx=>?_) (fun hP next _=>?_)
 ·intro _;dsimp only [Zbol,Zbkk];refine ifT (decide_eq_true (by omega)) ⟨by omega,AtN.of (Zbe hp) fun _ _ _=>?_⟩
  rw [Zcdn];refine IfB.intro (fun h=>h1 _ ?_) (fun h=>of_eq (hx ?_) ?_);rw [hp];simp [h];rw [YZa,hP];simp [h]
  ·rw [Zh (by omega) (by omega)];simp
 dsimp only [Zbol];exact ifF (decide_eq_false (by omega)) (h2 hP)
theorem Zdkl (s:Seg) (K:Bool->Prop) (hl:s.2.length <= 9223372036854775807) (h:K (s.2.any Zbx)):Zyy s K:=by
 unfold Zyy;intro _;unfold Zbrf;intro _;refine Zcmp s.2 _ hl (fun i hi _ _=>of_eq h ?_) (fun hi _ _=>of_eq h ?_);rw [hi,decide_eq_true (by omega)]
 rw [hi];rfl
theorem Zdbl (l:List Seg) (K:Int->Prop) (hl:l.length <= 9223372036854775807) (hs: ∀s∈l,s.2.length <= 9223372036854775807) (h1: ∀i:Nat,Zcz l=true->K i) (h2:Zcz l=false->K (-1)):Zxt l K:=by
 unfold Zxt;refine Zl.over l (fun pre=>((pre.length:Int),())) (fun pre=>Zcz pre=false) rfl rfl (fun pre x post hp hn hP next hx=>?_) (fun hP next _=>?_)
 ·intro _;dsimp only [Zbrk];refine ifT (decide_eq_true (by omega)) ⟨by omega,AtN.of (Zbe hp) fun _ _=>Zdkl x _ (hs x (by simp [hp])) fun _=>?_⟩
  refine IfB.intro (fun h=>h1 _ ?_) (fun h=>of_eq (hx ?_) ?_);rw [hp];simp only [Zcz,YZa,List.any_cons,h,Bool.true_or,Bool.or_true];simp only [Zcz] at hP;simp only [Zcz,YZa,hP,List.any_cons,h,List.any_nil,Bool.or_false]
  ·rw [Zh (by omega) (by omega)];simp
 dsimp only [Zbrk];exact ifF (decide_eq_false (by omega)) (h2 hP)
theorem Zczo (p:List Seg) (K:Bool->Prop) (hl:p.length <= 9223372036854775807) (hs: ∀s∈p,s.2.length <= 9223372036854775807) (h:K (Zcz p)):Zbgd p K:=by
 unfold Zbgd;intro _;unfold Zbqs;intro _;refine Zdbl p _ hl hs (fun i hi _ _=>of_eq h ?_) (fun hi _ _=>of_eq h ?_);rw [hi,decide_eq_true (by omega)]
 rw [hi];rfl
def Zit (four:Bool) (a:Za):List UInt8:=attB 64 1 [ofI .u8 (IntKind.wrap .u8 a.origin)]++(attB 64 2 (Zbo four a.path)++attB 64 3 (be4 a.next.toNat))
def oldB (four:Bool) (a:Za):List UInt8:=
 (if !four&&Zcz a.path then attB 192 17 (Zbo true a.path) else [])++if !four&&(a.hasMaker&&Zbx a.makerAS) then attB 192 18 (be4 a.makerAS.toNat++be4 a.maker.toNat) else []
def Zeu (l:List Raw):List UInt8:=l.flatMap fun x=>attB 224 x.1 x.2
def Zck (four:Bool) (a:Za):List UInt8:=Zit four a++(Zke four a++(oldB four a++Zeu a.others))
theorem Zqu {four:Bool} {p:List Seg} (hok:Zbh p=true):(Zbo four p).length <= 1000:=by simp only [Zbh,Ya,decide_eq_true_eq] at hok;have h1:=Zbhs p hok.1;have h2:=Zbhu four p;omega
theorem Zdno {four:Bool} {a:Za} (h:Zbh a.path=true):(Zit four a).length <= 1100:=by unfold Zit;have h1:=Zeo 64 1 [ofI .u8 (IntKind.wrap .u8 a.origin)];have h2:=Zeo 64 2 (Zbo four a.path);have h3:=Zeo 64 3 (be4 a.next.toNat);have h4:=Zqu (four:=four) h;simp only [Yb,Zdz,List.length_cons,List.length_nil] at*;omega
theorem Zbiv: ∀(l:List Raw) (last:Int),Zcj last l=true->(Zeu l).length <= 259*l.length
 | [],_,_=>by simp [Zeu]
 | x::l,last,h=>by
  simp only [Zcj,Ya,decide_eq_true_eq] at h;have h1:=Zbiv l x.1 h.2;have h2:=Zeo 224 x.1 x.2;have h3:(Zeu (x::l)).length=(attB 224 x.1 x.2).length+(Zeu l).length:=by simp [Zeu]
  have h4:=h.1.2;simp only [List.length_cons];omega
theorem Zckr (a:Za) (four:Bool) (K:List UInt8->Int->Prop) (hl:a.path.length <= 9223372036854775807) (hc:cnt a.path <= 9223372036854775807) (hs: ∀s∈a.path,s.2.length <= 9223372036854775807) (ho:a.others.length <= 9223372036854775807)
  (h:K (if Zdh a then Zck four a else []) (Zhm (Zdh a))):Zrt a four K:=by
 unfold Zrt;simp only [Zdc];intro _;refine Zcej a _ hl hc ho fun _=>?_;rw [Zble];refine IfB.intro (fun h1=>?_) (fun h1 _=>Zcdg a.path four _ hl hc fun _ _=>?_)
 ·have h1:Zdh a=false:=by simpa using h1
  rw [h1] at h ⊢;exact h
 have h1:Zdh a=true:=by simpa using h1
 rw [h1] at h;have hok:=h1;simp only [Zdh,Ya,decide_eq_true_eq,YF] at hok;obtain ⟨⟨⟨⟨⟨⟨_,_⟩,hpok⟩,_⟩,_⟩,hcm⟩,hoth,hol⟩:=hok;rw [if_pos hpok];have hps:=Zqu (four:=four) hpok;have hpt:=Zqu (four:=true) hpok;have s4: ∀c:List UInt8,c.length <= 20000->K (c++Zeu a.others) 0->Zbhy a c K:=fun c hc h=>by
  dsimp only [Zbhy,Zbva];refine Zl.over a.others (fun pre=>((pre.length:Int),c++Zeu pre,())) (fun _=>True) (by simp [Zeu]) trivial (fun pre x post hp hn _ next hx=>?_) (fun _ next _=>?_)
  ·intro _;dsimp only [Zblm];have hpre:Zcj (-1) pre=true∧Zcj (lastOf (-1) pre) (x::post)=true:=by have:=hoth;rw [hp,Zvi,Ya] at this;exact this
   have hb:=Zbiv pre _ hpre.1;have hx2:x.2.length <= 255:=by have:=hpre.2;simp only [Zcj,Ya,decide_eq_true_eq] at this;exact this.1.2
   refine ifT (decide_eq_true (show (pre.length:Int)<(a.others.length:Int) by omega)) ⟨by omega,AtN.of (Zbe hp) fun _ _ _=>?_⟩
   refine Zche _ 224 x.1 [x.2] _ (.inr (.inr (.inr rfl))) (by simp) (by simp;omega) (by simp only [Yb];omega) fun _ _=>of_eq (hx trivial) ?_
   rw [Zh (by omega) (by omega)]
   simp [Zeu]
  dsimp only [Zblm];exact ifF (decide_eq_false (show ¬(a.others.length:Int)<(a.others.length:Int) by omega)) h
 have s3: ∀(c:List UInt8) (b:Bool),c.length <= 10000->K (c++((if b then attB 192 18 (be4 a.makerAS.toNat++be4 a.maker.toNat) else [])++Zeu a.others)) 0->Zpv a c b K:=fun c b hc h=>by
  dsimp only [Zpv];have hb:=Zeo 192 18 (be4 a.makerAS.toNat++be4 a.maker.toNat);simp only [Yb,Zdz] at hb;refine IfB.intro (fun h1 _=>Ziz _ _ fun _ _=>Ziz _ _ fun _ _ _=>Zjf c 18 _ _ (.inr (.inr (.inl rfl))) (by simp) ?_ (by omega) fun _ _=>s4 _ ?_ (Zga h ?_)) (fun h1=>s4 _ (by omega) (Zga h ?_))
  simp only [List.flatten_cons,List.flatten_nil,Yv,Yb,Zdz];omega
  ·simp only [List.flatten_cons,List.flatten_nil,Yv,Yb];have:Zcq 18=192:=rfl;rw [this];(dsimp only [Za.origin,Za.path,Za.next,Za.hasMed,Za.med,Za.hasLocal,Za.loc,Za.atomic,Za.hasMaker,Za.makerAS,Za.maker,Za.comms,Za.others] at*;omega)
  rw [if_pos h1,← Yu];simp only [List.flatten_cons,List.flatten_nil,Yv];rfl;rw [h1];simp
 have s2: ∀(c:List UInt8),c.length <= 9000->K (c++((if !four&&(a.hasMaker&&Zbx a.makerAS) then attB 192 18 (be4 a.makerAS.toNat++be4 a.maker.toNat) else [])++Zeu a.others)) 0->Zbee four a c K:=fun c hc h=>by
  dsimp only [Zbee];rw [Zcdn];refine IfB.intro (fun h1=>IfB.intro (fun h2=>s3 _ _ (by omega) (Zga h ?_)) (fun h2=>s3 _ _ (by omega) (Zga h ?_))) (fun h1=>s3 _ _ (by omega) (Zga h ?_))
  have h2:a.hasMaker=true:=h2;rw [h1,h2];rfl;have h2:a.hasMaker=false:=h2;rw [h1,h2];rfl;rw [h1];rfl
 have s1: ∀(c:List UInt8) (b:Bool),c.length <= 5000->K (c++((if b then attB 192 17 (Zbo true a.path) else [])++((if !four&&(a.hasMaker&&Zbx a.makerAS) then attB 192 18 (be4 a.makerAS.toNat++be4 a.maker.toNat) else [])++Zeu a.others))) 0->Zxj four a c b K:=fun c b hc' h=>by
  dsimp only [Zxj];have hb:=Zeo 192 17 (Zbo true a.path);refine IfB.intro (fun h1 _=>Zcdg a.path true _ hl hc fun _ _ _=>Zjf c 17 _ _ (.inr (.inr (.inl rfl))) (by simp) ?_ (by omega) fun _ _=>s2 _ ?_ (Zga h ?_)) (fun h1=>s2 _ (by omega) (Zga h ?_))
  rw [if_pos hpok];simp only [List.flatten_cons,List.flatten_nil,Yv];omega
  ·rw [if_pos hpok];simp only [List.flatten_cons,List.flatten_nil,Yv,Yb];have:Zcq 17=192:=rfl;rw [this];(dsimp only [Za.origin,Za.path,Za.next,Za.hasMed,Za.med,Za.hasLocal,Za.loc,Za.atomic,Za.hasMaker,Za.makerAS,Za.maker,Za.comms,Za.others] at*;omega)
  rw [if_pos h1,if_pos hpok,← Yu];simp only [List.flatten_cons,List.flatten_nil,Yv];rfl;rw [h1];simp
 have hh:=Zdno (four:=four) hpok;have hhd:Zit four a=attB 64 1 [ofI .u8 (IntKind.wrap .u8 a.origin)]++(attB 64 2 (Zbo four a.path)++attB 64 3 (be4 a.next.toNat)):=rfl;have hhl:(Zit four a).length=(attB 64 1 [ofI .u8 (IntKind.wrap .u8 a.origin)]).length+((attB 64 2 (Zbo four a.path)).length+(attB 64 3 (be4 a.next.toNat)).length):=by rw [hhd];simp only [Yb]
 have hp:=Zcko four a;have f1:Zcq 1=64:=rfl;have f2:Zcq 2=64:=rfl;have f3:Zcq 3=64:=rfl;have e1: ∀x:List UInt8,[x].flatten=x:=fun x=>by simp
 refine fun _=>Zjf [] 1 _ _ (.inl rfl) (by simp) (by simp) (by simp) fun _ _ _=>?_
 rw [e1,f1,List.nil_append];refine fun _=>Zjf _ 2 _ _ (.inl rfl) (by simp) (by rw [e1];(dsimp only [Za.origin,Za.path,Za.next,Za.hasMed,Za.med,Za.hasLocal,Za.loc,Za.atomic,Za.hasMaker,Za.makerAS,Za.maker,Za.comms,Za.others] at*;omega)) (by (dsimp only [Za.origin,Za.path,Za.next,Za.hasMed,Za.med,Za.hasLocal,Za.loc,Za.atomic,Za.hasMaker,Za.makerAS,Za.maker,Za.comms,Za.others] at*;omega)) fun _ _ _=>?_
 rw [e1,f2];refine Ziz _ _ fun _ _ _=>Zjf _ 3 _ _ (.inl rfl) (by simp) (by rw [e1,Zdz];decide) (by simp only [Yb];(dsimp only [Za.origin,Za.path,Za.next,Za.hasMed,Za.med,Za.hasLocal,Za.loc,Za.atomic,Za.hasMaker,Za.makerAS,Za.maker,Za.comms,Za.others] at*;omega)) fun _ _=>?_
 rw [e1,f3,Yu];rw [← hhd];refine fun _ _=>Zcnv _ a four _ (by (dsimp only [Za.origin,Za.path,Za.next,Za.hasMed,Za.med,Za.hasLocal,Za.loc,Za.atomic,Za.hasMaker,Za.makerAS,Za.maker,Za.comms,Za.others] at*;omega)) (by (dsimp only [Za.origin,Za.path,Za.next,Za.hasMed,Za.med,Za.hasLocal,Za.loc,Za.atomic,Za.hasMaker,Za.makerAS,Za.maker,Za.comms,Za.others] at*;omega)) fun _ _=>?_
 have hfin:K ((Zit four a++Zke four a)++((if !four&&Zcz a.path then attB 192 17 (Zbo true a.path) else [])++((if !four&&(a.hasMaker&&Zbx a.makerAS) then attB 192 18 (be4 a.makerAS.toNat++be4 a.maker.toNat) else [])++Zeu a.others))) 0:=by
  have e:Zck four a=(Zit four a++Zke four a)++((if !four&&Zcz a.path then attB 192 17 (Zbo true a.path) else [])++((if !four&&(a.hasMaker&&Zbx a.makerAS) then attB 192 18 (be4 a.makerAS.toNat++be4 a.maker.toNat) else [])++Zeu a.others)):=by unfold Zck oldB;simp only [Yu]
  rw [← e];exact h
 refine IfB.intro (fun h1 _=>Zczo a.path _ hl hs fun _=>s1 _ _ (by simp only [Yb];(dsimp only [Za.origin,Za.path,Za.next,Za.hasMed,Za.med,Za.hasLocal,Za.loc,Za.atomic,Za.hasMaker,Za.makerAS,Za.maker,Za.comms,Za.others] at*;omega)) (Zga hfin ?_)) (fun h1=>s1 _ _ (by simp only [Yb];(dsimp only [Za.origin,Za.path,Za.next,Za.hasMed,Za.med,Za.hasLocal,Za.loc,Za.atomic,Za.hasMaker,Za.makerAS,Za.maker,Za.comms,Za.others] at*;omega)) (Zga hfin ?_))
 rw [h1];rfl;rw [h1];rfl
theorem Zbjo {A:Type} (l:List A) (n:Nat):l.take (min l.length n)=l.take n:=by rcases Nat.le_total l.length n with h | h;rw [Ycb h,YX (Yh _),YX h];rw [Nat.min_eq_right h]
theorem Zccs: ∀(p:List Seg) (n:Nat),(∀s∈p,s.2.length <= n)->cnt p <= n*p.length
 | [],_,_=>by simp [cnt]
 | s::p,n,h=>by
  have h1:=Zccs p n fun s hs=>h s (by simp [hs])
  have h2:=h s (by simp)
  have h3:cnt (s::p)=s.2.length+cnt p:=by simp [cnt]
  rw [List.length_cons,Nat.mul_succ];omega
end Go.Proofs.YthhcfdpoiganhaaGreat
end
section
set_option maxRecDepth 100000
namespace Go.Proofs.YthhcfdpoiganhaaGreat
open Go.Sh
def numB (l:List UInt8):Nat:=l.foldl (fun a x=>a*256+x.toNat) 0
theorem Zqg (n:Nat) (h:n<4294967296):numB (be4 n)=n:=by simp only [numB,be4,List.foldl_cons,List.foldl_nil,YP];omega
theorem Zbtj (n:Nat) (h:n<65536):numB (be2 n)=n:=by simp only [numB,be2,List.foldl_cons,List.foldl_nil,YP];omega
def decN (size:Nat):Nat->List UInt8->List UInt32
 | 0,_=>[]
 | k+1,b=>UInt32.ofNat (numB (b.take size))::decN size k (b.drop size)
theorem Zbbs (size:Nat): ∀(k:Nat) (b:List UInt8),(decN size k b).length=k
 | 0,_=>rfl
 | k+1,b=>by simp [decN,Zbbs size k]
def Zdk (four:Bool):Nat:=if four then 4 else 2
def Zfl (size:Nat):Nat->List UInt8->Option (List Seg)
 | _,[]=>some []
 | 0,_::_=>none
 | _+1,[_]=>none
 | f+1,k::n::r=>if (k=1∨k=2)∧n.toNat*size <= r.length then (Zfl size f (r.drop (n.toNat*size))).map fun t=>(k==1,decN size n.toNat r)::t else none
theorem Zcao (size:Nat): ∀(f g:Nat) (b:List UInt8),b.length <= f->b.length <= g->Zfl size f b=Zfl size g b
 | 0,0,_,_,_=>rfl
 | 0,_+1,[],_,_=>rfl
 | 0,_+1,_::_,h,_=>by simp at h
 | _+1,0,[],_,_=>rfl
 | _+1,0,_::_,_,h=>by simp at h
 | _+1,_+1,[],_,_=>rfl
 | _+1,_+1,[_],_,_=>rfl
 | f+1,g+1,k::n::r,hf,hg=>by simp only [List.length_cons] at hf hg;simp only [Zfl];rw [Zcao size f g _ (by simp only [Yq];omega) (by simp only [Yq];omega)]
def Zew (four:Bool) (b:List UInt8):Option (List Seg):=match Zfl (Zdk four) b.length b with
 | some p=>if Zbh p=true then some p else none
 | none=>none
def trA (four:Bool) (x:UInt32):UInt32:=if four then x else if x.toNat>65535 then 23456 else x
def trS (four:Bool) (s:Seg):Seg:=(s.1,s.2.map (trA four))
theorem Zbat (four:Bool) (x:UInt32):(Zbm four x).length=Zdk four:=by unfold Zbm Zdk;cases four<;>rfl
theorem Zbxo (four:Bool): ∀l:List UInt32,(l.flatMap (Zbm four)).length=l.length*Zdk four
 | []=>by simp
 | x::l=>by simp only [Y5,Yb,Zbat,Zbxo four l,List.length_cons,Ypa];omega
theorem Zbqe (four:Bool) (x:UInt32):UInt32.ofNat (numB (Zbm four x))=trA four x:=by
 have hx:=Yda x;unfold Zbm trA;cases four with
 | true=>rw [if_pos rfl,if_pos rfl,Zqg _ hx];simp
 | false=>
  simp only [Y8,if_false];by_cases h:x.toNat>65535
  ·rw [if_pos h,if_pos h,Zbtj _ (by omega)];rfl
  ·rw [if_neg h,if_neg h,Zbtj _ (by omega)];simp
theorem Zchw (four:Bool) (rest:List UInt8): ∀l:List UInt32,decN (Zdk four) l.length (l.flatMap (Zbm four)++rest)=l.map (trA four)
 | []=>rfl
 | x::l=>by
  simp only [List.length_cons,decN,Y5,Yu,YG];have h1:(Zbm four x++(l.flatMap (Zbm four)++rest)).take (Zdk four)=Zbm four x:=by rw [← Zbat four x,Y4a]
  have h2:(Zbm four x++(l.flatMap (Zbm four)++rest)).drop (Zdk four)=l.flatMap (Zbm four)++rest:=by rw [← Zbat four x,Y3a]
  rw [h1,h2,Zbqe,Zchw four rest l]
theorem Zbyz (four:Bool): ∀(p:List Seg) (f:Nat),p.all Zfm=true->(Zbo four p).length <= f->Zfl (Zdk four) f (Zbo four p)=some (p.map (trS four))
 | [],f,_,_=>by show Zfl _ f []=some [];cases f<;>rfl
 | s::p,f,hok,hf=>by
  simp only [List.all_cons,Ya] at hok;have hs:=hok.1;simp only [Zfm,Ya,decide_eq_true_eq] at hs;have e:Zbo four (s::p)=(if s.1 then 1 else 2)::UInt8.ofNat s.2.length::(s.2.flatMap (Zbm four)++Zbo four p):=by simp [Zbo,Ztj]
  rw [e] at hf ⊢;simp only [List.length_cons,Yb] at hf;have hn:(UInt8.ofNat s.2.length).toNat=s.2.length:=by rw [YP];omega
  cases f with
  | zero=>omega
  | succ f=>
   simp only [Zfl];have hlen:=Zbxo four s.2;rw [hn,if_pos ⟨by cases s.1<;>simp,by rw [Yb,hlen];omega⟩,← hlen,Y3a,Zbyz four p f hok.2 (by omega),Zchw]
   simp only [Option.map_some,YG,trS];congr 2;cases s.1<;>rfl
theorem Zbww {four:Bool} {x:UInt32} (h:(x !=0)=true):(trA four x !=0)=true:=by unfold trA;split;exact h;split;decide;exact h
theorem Zcob {four:Bool} {s:Seg} (h:Zfm s=true):Zfm (trS four s)=true:=by simp only [Zfm,trS,Ya,decide_eq_true_eq,Yz,Yp] at h ⊢;refine ⟨h.1,fun x hx=>?_⟩;obtain ⟨y,hy,rfl⟩:=YS.1 hx;exact Zbww (h.2 y hy)
theorem Zdga {four:Bool} {p:List Seg} (h:Zbh p=true):Zbh (p.map (trS four))=true:=by
 simp only [Zbh,Ya,decide_eq_true_eq] at h ⊢;refine ⟨Yp.2 fun x hx=>?_,?_⟩;obtain ⟨y,hy,rfl⟩:=YS.1 hx;exact Zcob (Yp.1 h.1 y hy)
 ·have:cnt (p.map (trS four))=cnt p:=by simp only [cnt,Ywa];congr 1;exact YM fun s _=>by simp [trS]
  rw [this];exact h.2
theorem Zchb (four:Bool) {p:List Seg} (h:Zbh p=true):Zew four (Zbo four p)=some (p.map (trS four)):=by
 unfold Zew;rw [Zbyz four p _ (by simp only [Zbh,Ya] at h;exact h.1) (Yh _)]
 simp only [Zdga h,if_true]
theorem Zcgg (p:List Seg):p.map (trS true)=p:=by
 conv=>rhs;rw [← Yeb p]
 exact YM fun s _=>by
  have:s.2.map (trA true)=s.2:=by
   conv=>rhs;rw [← Yeb s.2]
   exact YM fun x _=>rfl
  simp only [trS,this];rfl
theorem Zdem {p:List Seg} (h:Zcz p=false):p.map (trS false)=p:=by
 conv=>rhs;rw [← Yeb p]
 refine YM fun s hs=>?_;have:s.2.map (trA false)=s.2:=by
  conv=>rhs;rw [← Yeb s.2]
  refine YM fun x hx=>?_;have hb:Zbx x=false:=by
   cases hb:Zbx x with
   | false=>rfl
   | true=>
    have:Zcz p=true:=YNa.2 ⟨s,hs,YNa.2 ⟨x,hx,hb⟩⟩;rw [this] at h;cases h
  have: ¬x.toNat>65535:=by unfold Zbx at hb;have:=of_decide_eq_false hb;omega
  show trA false x=x;unfold trA;rw [if_neg (by decide),if_neg this]
 simp only [trS,this];rfl
theorem Zbxc {four:Bool} {b:List UInt8} {p:List Seg} (h:Zew four b=some p):Zbh p=true:=by unfold Zew at h;split at h;split at h;rename_i hp;cases h;exact hp;cases h;cases h
def lenP (p:List Seg):Nat:=(p.map fun s=>if s.1 then 1 else s.2.length).sum
def Zct:List Seg->Nat->List Seg
 | _,0=>[]
 | [],_=>[]
 | s::r,n+1=>if s.1 then s::Zct r n else (s.1,s.2.take (n+1))::Zct r (n+1 - min (n+1) s.2.length)
def Zjo (out rest:List Seg):List Seg:=match out.getLast?,rest with
 | some l,r::rest'=>if !l.1&& !r.1 then out.dropLast++(l.1,l.2++r.2)::rest' else out++rest
 | _,_=>out++rest
def Zei (two four:List Seg):List Seg:=if lenP two<lenP four then two else Zjo (Zct two (lenP two - lenP four)) four
theorem Zdiy (four:Bool) (p:List Seg):lenP (p.map (trS four))=lenP p:=by unfold lenP;rw [Ywa];congr 1;exact YM fun s _=>by simp [trS]
theorem Zdmo (p:List Seg):Zei (p.map (trS false)) p=p:=by
 unfold Zei;rw [Zdiy,if_neg (Nat.lt_irrefl _),YUa];have:Zct (p.map (trS false)) 0= []:=by cases p<;>rfl
 rw [this];rfl
def Zet:List UInt8->Option (Nat×Nat×List UInt8×Nat)
 | fl::kd::n1::r=>
  if fl.toNat/16%2=1 then match r with
   | n2::r'=>if n1.toNat*256+n2.toNat <= r'.length then some (fl.toNat/64*64,kd.toNat,r'.take (n1.toNat*256+n2.toNat),4+(n1.toNat*256+n2.toNat)) else none
   | []=>none
  else if n1.toNat <= r.length then some (fl.toNat/64*64,kd.toNat,r.take n1.toNat,3+n1.toNat) else none
 | _=>none
theorem Zbqv {b:List UInt8} {fl kd:Nat} {d:List UInt8} {n:Nat} (h:Zet b=some (fl,kd,d,n)):3 <= n∧n <= b.length∧kd<256∧d.length+3 <= n:=by unfold Zet at h;split at h;rename_i f k n1 r;have hk:=YD k;split at h;split at h;rename_i n2 r';split at h;rename_i hle;simp only [Option.some.injEq,Prod.mk.injEq] at h;obtain ⟨rfl,rfl,rfl,rfl⟩:=h;simp only [List.length_cons,Yo];omega;cases h;cases h;split at h;rename_i hle;simp only [Option.some.injEq,Prod.mk.injEq] at h;obtain ⟨rfl,rfl,rfl,rfl⟩:=h;simp only [List.length_cons,Yo];omega;cases h;cases h
def twoF (fl:Int):Nat:=fl.toNat/64*64
theorem Zdlo {fl:Int} {kind:Nat} {data rest:List UInt8} (hf:okFl fl) (hk:kind<256) (hd:data.length <= 65535):Zet (attB fl kind data++rest)=some (twoF fl,kind,data,(attB fl kind data).length):=by
 have hkd:(ofI .u8 (IntKind.wrap .u8 (kind:Int)):UInt8).toNat=kind:=by
  have e:IntKind.wrap .u8 (kind:Int)=(kind:Int):=by rw [Zms];omega
  rw [e];have e2:(ofI .u8 (kind:Int):UInt8)=UInt8.ofNat kind:=by simp [ofI]
  rw [e2,YP,YV (by omega)]
 have hfl: ∃f:Nat,fl=(f:Int)∧f+16<256∧f/16%2=0∧(f+16)/64=f/64:=by
  rcases hf with rfl | rfl | rfl | rfl;exact ⟨64,rfl,by decide,by decide,by decide⟩
  exact ⟨128,rfl,by decide,by decide,by decide⟩
  exact ⟨192,rfl,by decide,by decide,by decide⟩
  exact ⟨224,rfl,by decide,by decide,by decide⟩
 obtain ⟨f,rfl,hf1,hf2,hf3⟩:=hfl;have o1: ∀m:Nat,m<256->(ofI .u8 (m:Int):UInt8).toNat=m:=fun m hm=>by
  have e2:(ofI .u8 (m:Int):UInt8)=UInt8.ofNat m:=by simp [ofI]
  rw [e2,YP,YV (by omega)]
 have e16:((f:Int)+16)=((f+16:Nat):Int):=by omega
 unfold attB twoF;rw [Int.toNat_natCast];by_cases h:255<data.length
 ·rw [if_pos h,e16];simp only [List.cons_append,List.nil_append,Zet,o1 _ hf1,hkd,YP];have e:data.length/256%256*256+data.length%256=data.length:=by omega
  rw [if_pos (by omega),e,if_pos (by rw [Yb];omega),Y4a]
  simp only [Option.some.injEq,Prod.mk.injEq,true_and,List.length_cons];omega
 ·rw [if_neg h];simp only [List.cons_append,List.nil_append,Zet,o1 f (by omega),hkd,YP]
  have e:data.length%256=data.length:=by omega
  rw [if_neg (by omega),e,if_pos (by rw [Yb];omega),Y4a]
  simp only [Option.some.injEq,Prod.mk.injEq,true_and,List.length_cons];omega
structure RdS where
 a:Za
 worst:Nat
 seen:List Nat
 p4:Option (List Seg)
 m4:Option (UInt32×UInt32)
def Zfe:Za:=(0,[],0,false,0,false,0,false,false,0,0,[],[])
def rd0:RdS:=⟨Zfe,0,[],none,none⟩
def RdS.found (s:RdS) (w:Nat):RdS:=⟨s.a,max s.worst w,s.seen,s.p4,s.m4⟩
def RdS.put (s:RdS) (a:Za):RdS:=⟨a,s.worst,s.seen,s.p4,s.m4⟩
def RdS.see (s:RdS) (k:Nat):RdS:=⟨s.a,s.worst,k::s.seen,s.p4,s.m4⟩
def u32B (d:List UInt8):UInt32:=UInt32.ofNat (numB d)
def oneF (four:Bool) (kind:Nat) (d:List UInt8) (s:RdS):RdS:=
 let (origin,path,nxt,hasMed,med,hasLocal,loc,atomic,hasMaker,makerAS,maker,comms,others):=s.a
 if kind=1 then (if d.length=1∧(d.headD 0).toNat <= 2 then s.put (((d.headD 0).toNat:Int),path,nxt,hasMed,med,hasLocal,loc,atomic,hasMaker,makerAS,maker,comms,others) else s.found 2)
 else if kind=2 then (match Zew four d with
  | some p=>s.put (origin,p,nxt,hasMed,med,hasLocal,loc,atomic,hasMaker,makerAS,maker,comms,others)
  | none=>s.found 2)
 else if kind=3 then (if d.length=4∧numB d≠0∧numB d<3758096384 then s.put (origin,path,u32B d,hasMed,med,hasLocal,loc,atomic,hasMaker,makerAS,maker,comms,others) else s.found 2)
 else if kind=4 then (if d.length=4 then s.put (origin,path,nxt,true,u32B d,hasLocal,loc,atomic,hasMaker,makerAS,maker,comms,others) else s.found 2)
 else if kind=6 then (if d.length=0 then s.put (origin,path,nxt,hasMed,med,hasLocal,loc,true,hasMaker,makerAS,maker,comms,others) else s.found 1)
 else if kind=7 then (if d.length=Zdk four+4∧numB (d.take (Zdk four))≠0 then s.put (origin,path,nxt,hasMed,med,hasLocal,loc,atomic,true,u32B (d.take (Zdk four)),u32B (d.drop (Zdk four)),comms,others) else s.found 1)
 else if kind=8 then (if d.length≠0∧d.length%4=0∧d.length/4 <= 32 then s.put (origin,path,nxt,hasMed,med,hasLocal,loc,atomic,hasMaker,makerAS,maker,comms++decN 4 (d.length/4) d,others) else s.found 2)
 else if kind=17 then (if four then s else match Zew true d with
  | some p=>⟨s.a,s.worst,s.seen,some p,s.m4⟩
  | none=>s.found 1)
 else if kind=18 then (if four then s else if d.length=8∧numB (d.take 4)≠0 then ⟨s.a,s.worst,s.seen,s.p4,some (u32B (d.take 4),u32B (d.drop 4))⟩ else s.found 1)
 else s
def insO (k:Int) (d:List UInt8):List Raw->List Raw
 | []=>[(k,d)]
 | x::r=>if x.1<k then x::insO k d r else (k,d)::x::r
def Zie (kind:Nat) (d:List UInt8) (s:RdS):RdS:=
 let (origin,path,nxt,hasMed,med,hasLocal,loc,atomic,hasMaker,makerAS,maker,comms,others):=s.a
 if 8 <= others.length∨255<d.length then s.found 1 else s.put (origin,path,nxt,hasMed,med,hasLocal,loc,atomic,hasMaker,makerAS,maker,comms,insO kind d others)
def Zce (four:Bool) (fl kind:Nat) (d:List UInt8) (s:RdS):Option RdS:=
 if kind∈s.seen then some (s.found 1)
 else if Zfk kind=true then (if (fl:Int)=Zcq kind then some (oneF four kind d (s.see kind)) else some ((s.see kind).found 2))
 else if fl<128 then none else if fl=192 then some (Zie kind d (s.see kind)) else some (s.see kind)
def Zfu (four:Bool):Nat->List UInt8->RdS->RdS×Option (List UInt8)
 | _,[],s=>(s,none)
 | 0,_::_,s=>(s,none)
 | f+1,x::b,s=>match Zet (x::b) with
  | none=>(s.found 2,none)
  | some (fl,kd,d,n)=>match Zce four fl kd d s with
   | none=>(s,some ((x::b).take n))
   | some s'=>Zfu four f ((x::b).drop n) s'
theorem Zbwg (four:Bool): ∀(f g:Nat) (b:List UInt8) (s:RdS),b.length <= f->b.length <= g->Zfu four f b s=Zfu four g b s
 | 0,0,_,_,_,_=>rfl
 | 0,_+1,[],_,_,_=>rfl
 | 0,_+1,_::_,_,h,_=>by simp at h
 | _+1,0,[],_,_,_=>rfl
 | _+1,0,_::_,_,_,h=>by simp at h
 | _+1,_+1,[],_,_,_=>rfl
 | f+1,g+1,x::b,s,hf,hg=>by
  simp only [Zfu];cases hn:Zet (x::b) with
  | none=>rfl
  | some r=>
   obtain ⟨fl,kd,d,n⟩:=r;obtain ⟨h1,_⟩:=Zbqv hn;simp only;cases Zce four fl kd d s with
   | none=>rfl
   | some s'=>
    simp only [List.length_cons] at hf hg;exact Zbwg four f g _ s' (by simp only [Yq,List.length_cons];omega) (by simp only [Yq,List.length_cons];omega)
def Zdt (s:RdS):Za:=
 let (origin,path,nxt,hasMed,med,hasLocal,loc,atomic,hasMaker,makerAS,maker,comms,others):=s.a
 if hasMaker=true∧makerAS≠23456 then s.a else
  let m:UInt32×UInt32:=match hasMaker,s.m4 with
   | true,some m=>m
   | _,_=>(makerAS,maker)
  let p:List Seg:=match s.p4 with
   | some q=>if Zbh (Zei path q)=true then Zei path q else path
   | none=>path
  (origin,p,nxt,hasMed,med,hasLocal,loc,atomic,hasMaker,m.1,m.2,comms,others)
def Zci (four told:Bool) (b:List UInt8):Za×Nat×Option (List UInt8):=
 match Zfu four b.length b rd0 with
 | (_,some w)=>(Zfe,3,some w)
 | (s,none)=>
  let s':=if told=true∧¬(1∈s.seen∧2∈s.seen∧3∈s.seen) then s.found 2 else s
  if 2 <= s'.worst then (Zfe,s'.worst,none) else (Zdt s',s'.worst,none)
def Zde (four:Bool) (s:Option RdS) (p:Int×Nat×List UInt8):Option RdS:=s.bind (Zce four (twoF p.1) p.2.1 p.2.2)
theorem Zbse (four:Bool): ∀ps:List (Int×Nat×List UInt8),ps.foldl (Zde four) none=none
 | []=>rfl
 | p::ps=>by rw [List.foldl_cons];exact Zbse four ps
theorem Zbtk (four:Bool): ∀(ps:List (Int×Nat×List UInt8)) (f:Nat) (s s':RdS),(∀p∈ps,okFl p.1∧p.2.1<256∧p.2.2.length <= 65535)->(ps.flatMap fun p=>attB p.1 p.2.1 p.2.2).length <= f->ps.foldl (Zde four) (some s)=some s'->
  Zfu four f (ps.flatMap fun p=>attB p.1 p.2.1 p.2.2) s=(s',none)
 | [],f,s,s',_,_,h=>by simp only [List.foldl_nil,Option.some.injEq] at h;subst h;cases f<;>rfl
 | p::ps,f,s,s',hp,hf,h=>by
  obtain ⟨h1,h2,h3⟩:=hp p Yk;have hn:=Zdlo (rest:=ps.flatMap fun p=>attB p.1 p.2.1 p.2.2) h1 h2 h3;rw [Y5] at hf ⊢;rw [List.foldl_cons] at h;cases hs:Zce four (twoF p.1) p.2.1 p.2.2 s with
  | none=>
   have:Zde four (some s) p=none:=hs;rw [this,Zbse] at h;cases h
  | some s1=>
   have e1:Zde four (some s) p=some s1:=hs;rw [e1] at h;obtain ⟨z1,z2,_⟩:=Zbqv hn;rw [Yb] at hf;generalize hX:attB p.1 p.2.1 p.2.2++ps.flatMap (fun p=>attB p.1 p.2.1 p.2.2)=X at*;have hdrop:X.drop (attB p.1 p.2.1 p.2.2).length=ps.flatMap fun p=>attB p.1 p.2.1 p.2.2:=by rw [← hX,Y3a]
   cases X with
   | nil=>simp [Zet] at hn
   | cons x X=>
    cases f with
    | zero=>omega
    | succ f=>
     simp only [Zfu];rw [hn];simp only;rw [hs];simp only;rw [hdrop];exact Zbtk four ps f s1 s' (fun q hq=>hp q (Yi _ hq)) (by omega) h
def optP (c:Bool) (p:Int×Nat×List UInt8):List (Int×Nat×List UInt8):=if c then [p] else []
def Zmi (four:Bool) (a:Za):List (Int×Nat×List UInt8):=
 [(64,1,[ofI .u8 (IntKind.wrap .u8 a.origin)]),(64,2,Zbo four a.path),(64,3,be4 a.next.toNat)]++(optP a.hasMed (128,4,be4 a.med.toNat)++(optP a.atomic (64,6,[])++(optP a.hasMaker (192,7,Zbm four a.makerAS++be4 a.maker.toNat)++(optP (decide (0<a.comms.length)) (192,8,a.comms.flatMap fun x=>be4 x.toNat)++
  (optP (!four&&Zcz a.path) (192,17,Zbo true a.path)++(optP (!four&&(a.hasMaker&&Zbx a.makerAS)) (192,18,be4 a.makerAS.toNat++be4 a.maker.toNat)++a.others.map fun x=>(224,x.1.toNat,x.2)))))))
theorem Zcrs (c:Bool) (p:Int×Nat×List UInt8):((optP c p).flatMap fun p=>attB p.1 p.2.1 p.2.2)=if c then attB p.1 p.2.1 p.2.2 else []:=by unfold optP;cases c<;>simp
theorem Zcbg (four:Bool) (a:Za) (ho: ∀x∈a.others,0 <= x.1):Zck four a=(Zmi four a).flatMap fun p=>attB p.1 p.2.1 p.2.2:=by
 unfold Zmi;simp only [List.flatMap_append,Zcrs,Y5,List.flatMap_nil,Yv];have e:((a.others.map fun x=>((224:Int),x.1.toNat,x.2)).flatMap fun p=>attB p.1 p.2.1 p.2.2)=Zeu a.others:=by
  unfold Zeu;rw [List.flatMap_map];generalize a.others=l at*;induction l with
  | nil=>rfl
  | cons x l ih=>
   rw [Y5,Y5,ih fun y hy=>ho y (Yi _ hy)];have:=ho x Yk;have e2:((x.1.toNat:Nat):Int)=x.1:=by omega
   simp only [e2]
 rw [e];unfold Zck Zit Zke oldB;simp only [Yu,decide_eq_true_eq];rfl
structure Sg (s:RdS) (a:Za) (m:Nat) (p4:Option (List Seg)) (m4:Option (UInt32×UInt32)):Prop where
 a:s.a=a
 w:s.worst=0
 le: ∀k∈s.seen,k <= m
 kn: ∀k∈s.seen,Zfk (k:Int)=true
 s1:1∈s.seen
 s2:2∈s.seen
 s3:3∈s.seen
 p:s.p4=p4
 q:s.m4=m4
theorem Zmx {four c:Bool} {p:Int×Nat×List UInt8} {S:RdS->Prop} {rest:List (Int×Nat×List UInt8)} {s:RdS} (h1:c=true->∃s',Zce four (twoF p.1) p.2.1 p.2.2 s=some s'∧S s') (h0:c=false->S s):
  ∃s',(optP c p++rest).foldl (Zde four) (some s)=rest.foldl (Zde four) (some s')∧S s':=by
 cases c with
 | false=>exact ⟨s,rfl,h0 rfl⟩
 | true=>
  obtain ⟨s',e,hs⟩:=h1 rfl;refine ⟨s',?_,hs⟩;show (rest.foldl (Zde four) (Zde four (some s) p))=_;have:Zde four (some s) p=some s':=e;rw [this]
theorem Zmt {four:Bool} {fl kind:Nat} {d:List UInt8} {s:RdS} {m:Nat} (hle: ∀k∈s.seen,k <= m) (hm:m<kind) (hk:Zfk (kind:Int)=true) (hf:(fl:Int)=Zcq kind):Zce four fl kind d s=some (oneF four kind d (s.see kind)):=by unfold Zce;rw [if_neg (fun h=>by have:=hle _ h;omega),if_pos hk,if_pos hf]
theorem Sg.see {s:RdS} {a:Za} {m:Nat} {p4:Option (List Seg)} {m4:Option (UInt32×UInt32)} (h:Sg s a m p4 m4) {k:Nat} (hm:m<k) (hk:Zfk (k:Int)=true):Sg (s.see k) a k p4 m4:=
 ⟨h.a,h.w,fun j hj=>by rcases Yj.1 hj with rfl | hj;exact Yh _;have:=h.le j hj;omega,fun j hj=>by rcases Yj.1 hj with rfl | hj;exact hk;exact h.kn j hj,Yi _ h.s1,Yi _ h.s2,Yi _ h.s3,h.p,h.q⟩
theorem Sg.put {s:RdS} {a:Za} {m:Nat} {p4:Option (List Seg)} {m4:Option (UInt32×UInt32)} (h:Sg s a m p4 m4) (b:Za):Sg (s.put b) b m p4 m4:=⟨rfl,h.w,h.le,h.kn,h.s1,h.s2,h.s3,h.p,h.q⟩
theorem Zbzx: ∀l:List UInt32,decN 4 l.length (l.flatMap fun x=>be4 x.toNat)=l
 | []=>rfl
 | x::l=>by have hx:=Yda x;simp only [List.length_cons,decN,Y5];have h1:(be4 x.toNat++l.flatMap fun x=>be4 x.toNat).take 4=be4 x.toNat:=rfl;have h2:(be4 x.toNat++l.flatMap fun x=>be4 x.toNat).drop 4=l.flatMap fun x=>be4 x.toNat:=rfl;rw [h1,h2,Zqg _ hx,Zbzx l];simp
theorem Zpr (x:UInt32):u32B (be4 x.toNat)=x:=by unfold u32B;rw [Zqg _ (Yda x)];simp
theorem Zbsr {k:Int} {d:List UInt8}: ∀l:List Raw,(∀y∈l,y.1<k)->insO k d l=l++[(k,d)]
 | [],_=>rfl
 | x::r,h=>by simp only [insO];rw [if_pos (h x Yk),Zbsr r fun y hy=>h y (Yi _ hy)];rfl
theorem Zcfg (four:Bool) {o n:Int} {p:List Seg} {nx:UInt32} {hm:Bool} {md:UInt32} {hl:Bool} {lc:UInt32} {at_ hk:Bool} {as_ mk:UInt32} {cs:List UInt32}: ∀(l pre:List Raw) (last:Int) (s:RdS),Zcj last l=true->pre.length+l.length <= 8->(∀y∈pre,y.1 <= last)-> -1 <= last->
  s.a=(o,p,nx,hm,md,hl,lc,at_,hk,as_,mk,cs,pre)->(∀k∈s.seen,Zfk (k:Int)=true∨(k:Int) <= last)->
  ∃s',(l.map fun x=>((224:Int),x.1.toNat,x.2)).foldl (Zde four) (some s)=some s'∧s'.a=(o,p,nx,hm,md,hl,lc,at_,hk,as_,mk,cs,pre++l)∧s'.worst=s.worst∧s'.p4=s.p4∧s'.m4=s.m4∧∀k∈s.seen,k∈s'.seen
 | [],pre,last,s,_,_,_,_,ha,_=>⟨s,rfl,by rw [ha,Yv],rfl,rfl,rfl,fun k hk=>hk⟩
 | x::l,pre,last,s,ho,hlen,hpre,hlast,ha,hs=>by
  simp only [Zcj,Ya,YF,decide_eq_true_eq] at ho;obtain ⟨⟨⟨⟨h1,h2⟩,h3⟩,h4⟩,h5⟩:=ho;simp only [List.length_cons] at hlen;have hx:((x.1.toNat:Nat):Int)=x.1:=by omega
  have e:Zce four (twoF 224) x.1.toNat x.2 s=some ((s.see x.1.toNat).put (o,p,nx,hm,md,hl,lc,at_,hk,as_,mk,cs,pre++[x])):=by
   unfold Zce;rw [if_neg (fun h=>by rcases hs _ h with h6 | h6<;>rw [hx] at h6;rw [h1] at h6;cases h6;omega),hx,if_neg (by rw [h1];decide),if_neg (by decide),if_pos (by decide)]
   unfold Zie;have ha':(s.see x.1.toNat).a=(o,p,nx,hm,md,hl,lc,at_,hk,as_,mk,cs,pre):=ha;rw [ha'];simp only;rw [if_neg (by omega),hx,Zbsr pre fun y hy=>by have:=hpre y hy;omega]
  obtain ⟨s',f1,f2,f3,f4,f5,f6⟩:=Zcfg four (n:=n) l (pre++[x]) x.1 ((s.see x.1.toNat).put (o,p,nx,hm,md,hl,lc,at_,hk,as_,mk,cs,pre++[x])) h5 (by simp only [Yb,List.length_cons,List.length_nil];omega)
   (fun y hy=>by
    rcases Yw.1 hy with hy | hy;have:=hpre y hy;omega
    ·rw [YB] at hy;subst hy;omega) (by omega) rfl (fun k hk=>by
    rcases Yj.1 hk with rfl | hk;exact .inr (by omega)
    ·rcases hs k hk with h6 | h6;exact .inl h6
     ·exact .inr (by omega))
  refine ⟨s',?_,by rw [f2,Yu];rfl,f3,f4,f5,fun k hk=>f6 k (Yi _ hk)⟩
  rw [YG,List.foldl_cons];have:Zde four (some s) (224,x.1.toNat,x.2)=some ((s.see x.1.toNat).put (o,p,nx,hm,md,hl,lc,at_,hk,as_,mk,cs,pre++[x])):=e;rw [this];exact f1
theorem Sg.mono {s:RdS} {a:Za} {m m':Nat} {p4:Option (List Seg)} {m4:Option (UInt32×UInt32)} (h:Sg s a m p4 m4) (hm:m <= m'):Sg s a m' p4 m4:=
 ⟨h.a,h.w,fun k hk=>Yoa (h.le k hk) hm,h.kn,h.s1,h.s2,h.s3,h.p,h.q⟩
def gotA (four:Bool) (a:Za):Za:=(a.origin,a.path.map (trS four),a.next,a.hasMed,(if a.hasMed then a.med else 0),false,0,a.atomic,a.hasMaker,(if a.hasMaker then trA four a.makerAS else 0),(if a.hasMaker then a.maker else 0),a.comms,a.others)
def gotP (four:Bool) (a:Za):Option (List Seg):=if !four&&Zcz a.path then some a.path else none
def gotM (four:Bool) (a:Za):Option (UInt32×UInt32):=if !four&&(a.hasMaker&&Zbx a.makerAS) then some (a.makerAS,a.maker) else none
theorem Zdhi (four:Bool) (a:Za) (ha:Zdh a=true): ∃s,(Zmi four a).foldl (Zde four) (some rd0)=some s∧s.a=gotA four a∧s.worst=0∧s.p4=gotP four a∧s.m4=gotM four a∧1∈s.seen∧2∈s.seen∧3∈s.seen:=by
 obtain ⟨origin,path,nxt,hasMed,med,hasLocal,loc,atomic,hasMaker,makerAS,maker,comms,others⟩:=a;simp only [Zdh,Za.origin,Za.path,Za.next,Za.hasMaker,Za.makerAS,Za.comms,Za.others,Ya,decide_eq_true_eq] at ha;obtain ⟨⟨⟨⟨⟨⟨ho0,ho2⟩,hpath⟩,hnext⟩,hmk⟩,hcm⟩,hoth,ho8⟩:=ha;have hor:(ofI .u8 (IntKind.wrap .u8 origin):UInt8).toNat=origin.toNat:=by
  obtain ⟨k,rfl⟩:=Int.eq_ofNat_of_zero_le ho0;have e:IntKind.wrap .u8 (k:Int)=(k:Int):=by rw [Zms];omega
  rw [e,Int.toNat_natCast];have e2:(ofI .u8 (k:Int):UInt8)=UInt8.ofNat k:=by simp [ofI]
  rw [e2,YP,YV (by omega)]
 have hnx:=Yda nxt;have hmak:=Yda makerAS;simp only [Zmi];have t1:Zde four (some rd0) (64,1,[ofI .u8 (IntKind.wrap .u8 origin)])=some ((rd0.see 1).put (origin,[],0,false,0,false,0,false,false,0,0,[],[])):=by
  simp only [Zde,Option.bind_some];unfold Zce;rw [if_neg (by simp [rd0]),if_pos (by decide),if_pos (by decide)]
  have:(rd0.see 1).a=Zfe:=rfl;unfold oneF;rw [this];simp only [Zfe,List.headD_cons,hor];rw [if_pos trivial,if_pos ⟨rfl,by omega⟩,show ((origin.toNat:Nat):Int)=origin by omega]
 have t2:Zde four (some ((rd0.see 1).put (origin,[],0,false,0,false,0,false,false,0,0,[],[]))) (64,2,Zbo four path)=some ((((rd0.see 1).put (origin,[],0,false,0,false,0,false,false,0,0,[],[])).see 2).put (origin,path.map (trS four),0,false,0,false,0,false,false,0,0,[],[])):=by
  simp only [Zde,Option.bind_some];unfold Zce;rw [if_neg (by simp [rd0,RdS.see,RdS.put]),if_pos (by decide),if_pos (by decide)]
  unfold oneF;simp only [RdS.see,RdS.put];rw [if_neg (by decide),if_pos trivial,Zchb four hpath]
 have t3:Zde four (some ((((rd0.see 1).put (origin,[],0,false,0,false,0,false,false,0,0,[],[])).see 2).put (origin,path.map (trS four),0,false,0,false,0,false,false,0,0,[],[]))) (64,3,be4 nxt.toNat)=some (((((rd0.see 1).put (origin,[],0,false,0,false,0,false,false,0,0,[],[])).see 2).put (origin,path.map (trS four),0,false,0,false,0,false,false,0,0,[],[])).see 3 |>.put (origin,path.map (trS four),nxt,false,0,false,0,false,false,0,0,[],[])):=by
  simp only [Zde,Option.bind_some];unfold Zce;rw [if_neg (by simp [rd0,RdS.see,RdS.put]),if_pos (by decide),if_pos (by decide)]
  unfold oneF;simp only [RdS.see,RdS.put];rw [if_neg (by decide),if_neg (by decide),if_pos trivial,Zqg _ hnx,if_pos ⟨rfl,by omega,by omega⟩,Zpr]
 rw [List.foldl_append,List.foldl_cons,List.foldl_cons,List.foldl_cons,List.foldl_nil,t1,t2,t3];generalize h3:(((((rd0.see 1).put (origin,[],0,false,0,false,0,false,false,0,0,[],[])).see 2).put (origin,path.map (trS four),0,false,0,false,0,false,false,0,0,[],[])).see 3 |>.put (origin,path.map (trS four),nxt,false,0,false,0,false,false,0,0,[],[]))=s3;have g3:Sg s3 (origin,path.map (trS four),nxt,false,0,false,0,false,false,0,0,[],[]) 3 none none:=by subst h3;exact ⟨rfl,rfl,by simp [RdS.see,RdS.put,rd0],by intro k hk;simp [RdS.see,RdS.put,rd0] at hk;rcases hk with rfl | rfl | rfl<;>decide,by simp [RdS.see,RdS.put,rd0],by simp [RdS.see,RdS.put,rd0],by simp [RdS.see,RdS.put,rd0],rfl,rfl⟩
 clear h3 t1 t2 t3
 obtain ⟨s4,e4,g4⟩:=Zmx (four:=four) (c:=hasMed) (p:=(128,4,be4 med.toNat)) (rest:=optP atomic (64,6,[])++(optP hasMaker (192,7,Zbm four makerAS++be4 maker.toNat)++(optP (decide (0<comms.length)) (192,8,comms.flatMap fun x=>be4 x.toNat)++(optP (!four&&Zcz path) (192,17,Zbo true path)++(optP (!four&&(hasMaker&&Zbx makerAS)) (192,18,be4 makerAS.toNat++be4 maker.toNat)++others.map fun x=>(224,x.1.toNat,x.2))))))
  (S:=fun s=>Sg s (origin,path.map (trS four),nxt,hasMed,(if hasMed then med else 0),false,0,false,false,0,0,[],[]) 4 none none) (s:=s3) (fun hc=>by
   have g:=(g3.see (k:=4) (by decide) (by decide))
   refine ⟨_,Zmt (fl:=twoF 128) (kind:=4) g3.le (by decide) (by decide) (by decide),?_⟩
   have e:oneF four 4 (be4 med.toNat) (s3.see 4)=(s3.see 4).put (origin,path.map (trS four),nxt,true,u32B (be4 med.toNat),false,0,false,false,0,0,[],[]):=by simp [oneF,g.a,Zdz]
   rw [e,Zpr,hc];exact g.put _) (fun hc=>by rw [hc];exact g3.mono (by decide))
 obtain ⟨s6,e6,g6⟩:=Zmx (four:=four) (c:=atomic) (p:=(64,6,[])) (rest:=optP hasMaker (192,7,Zbm four makerAS++be4 maker.toNat)++(optP (decide (0<comms.length)) (192,8,comms.flatMap fun x=>be4 x.toNat)++(optP (!four&&Zcz path) (192,17,Zbo true path)++(optP (!four&&(hasMaker&&Zbx makerAS)) (192,18,be4 makerAS.toNat++be4 maker.toNat)++others.map fun x=>(224,x.1.toNat,x.2)))))
  (S:=fun s=>Sg s (origin,path.map (trS four),nxt,hasMed,(if hasMed then med else 0),false,0,atomic,false,0,0,[],[]) 6 none none) (s:=s4) (fun hc=>by
   have g:=(g4.see (k:=6) (by decide) (by decide))
   refine ⟨_,Zmt (fl:=twoF 64) (kind:=6) g4.le (by decide) (by decide) (by decide),?_⟩
   have e:oneF four 6 [] (s4.see 6)=(s4.see 6).put (origin,path.map (trS four),nxt,hasMed,(if hasMed then med else 0),false,0,true,false,0,0,[],[]):=by simp [oneF,g.a]
   rw [e,hc];exact g.put _) (fun hc=>by rw [hc];exact g4.mono (by decide))
 obtain ⟨s7,e7,g7⟩:=Zmx (four:=four) (c:=hasMaker) (p:=(192,7,Zbm four makerAS++be4 maker.toNat)) (rest:=optP (decide (0<comms.length)) (192,8,comms.flatMap fun x=>be4 x.toNat)++(optP (!four&&Zcz path) (192,17,Zbo true path)++(optP (!four&&(hasMaker&&Zbx makerAS)) (192,18,be4 makerAS.toNat++be4 maker.toNat)++others.map fun x=>(224,x.1.toNat,x.2))))
  (S:=fun s=>Sg s (origin,path.map (trS four),nxt,hasMed,(if hasMed then med else 0),false,0,atomic,hasMaker,(if hasMaker then trA four makerAS else 0),(if hasMaker then maker else 0),[],[]) 7 none none) (s:=s6) (fun hc=>by
   have g:=(g6.see (k:=7) (by decide) (by decide))
   refine ⟨_,Zmt (fl:=twoF 192) (kind:=7) g6.le (by decide) (by decide) (by decide),?_⟩
   have hz:=Zbat four makerAS;have q1:(Zbm four makerAS++be4 maker.toNat).take (Zdk four)=Zbm four makerAS:=by rw [← hz,Y4a]
   have q2:(Zbm four makerAS++be4 maker.toNat).drop (Zdk four)=be4 maker.toNat:=by rw [← hz,Y3a]
   have hnum:numB (Zbm four makerAS)≠0:=fun h=>by
    have h2:=Zbqe four makerAS;rw [h] at h2;have h3:(makerAS !=0)=true:=by
     rw [hc] at hmk;simp only [YT,YF,beq_eq_false_iff_ne,ne_eq] at hmk;have:makerAS≠0:=fun h=>hmk (by rw [h];rfl)
     simpa using this
    have h4:=Zbww (four:=four) h3;rw [← h2] at h4;exact absurd h4 (by decide)
   have e:oneF four 7 (Zbm four makerAS++be4 maker.toNat) (s6.see 7)=(s6.see 7).put (origin,path.map (trS four),nxt,hasMed,(if hasMed then med else 0),false,0,atomic,true,u32B (Zbm four makerAS),u32B (be4 maker.toNat),[],[]):=by unfold oneF;rw [g.a];simp only [q1,q2];rw [if_neg (by decide),if_neg (by decide),if_neg (by decide),if_neg (by decide),if_neg (by decide),if_pos trivial,if_pos ⟨by rw [Yb,hz,Zdz],hnum⟩]
   rw [e,Zpr,hc];have hu:u32B (Zbm four makerAS)=trA four makerAS:=Zbqe four makerAS;rw [hu];exact g.put _) (fun hc=>by rw [hc];exact g6.mono (by decide))
 obtain ⟨s8,e8,g8⟩:=Zmx (four:=four) (c:=decide (0<comms.length)) (p:=(192,8,comms.flatMap fun x=>be4 x.toNat)) (rest:=optP (!four&&Zcz path) (192,17,Zbo true path)++(optP (!four&&(hasMaker&&Zbx makerAS)) (192,18,be4 makerAS.toNat++be4 maker.toNat)++others.map fun x=>(224,x.1.toNat,x.2)))
  (S:=fun s=>Sg s (origin,path.map (trS four),nxt,hasMed,(if hasMed then med else 0),false,0,atomic,hasMaker,(if hasMaker then trA four makerAS else 0),(if hasMaker then maker else 0),comms,[]) 8 none none) (s:=s7) (fun hc=>by
   have hc:0<comms.length:=of_decide_eq_true hc;have g:=(g7.see (k:=8) (by decide) (by decide))
   refine ⟨_,Zmt (fl:=twoF 192) (kind:=8) g7.le (by decide) (by decide) (by decide),?_⟩
   have hl:=Zty comms;have hdiv:4*comms.length/4=comms.length:=by omega
   have e:oneF four 8 (comms.flatMap fun x=>be4 x.toNat) (s7.see 8)=(s7.see 8).put (origin,path.map (trS four),nxt,hasMed,(if hasMed then med else 0),false,0,atomic,hasMaker,(if hasMaker then trA four makerAS else 0),(if hasMaker then maker else 0),comms,[]):=by unfold oneF;rw [g.a];simp only [hl,hdiv,Zbzx,List.nil_append];rw [if_neg (by decide),if_neg (by decide),if_neg (by decide),if_neg (by decide),if_neg (by decide),if_neg (by decide),if_pos trivial,if_pos ⟨by omega,by omega,by omega⟩]
   rw [e];exact g.put _) (fun hc=>by
   have hc:comms= []:=Yl (by have:=of_decide_eq_false hc;omega)
   rw [hc];exact g7.mono (by decide))
 obtain ⟨s17,e17,g17⟩:=Zmx (four:=four) (c:=!four&&Zcz path) (p:=(192,17,Zbo true path)) (rest:=optP (!four&&(hasMaker&&Zbx makerAS)) (192,18,be4 makerAS.toNat++be4 maker.toNat)++others.map fun x=>(224,x.1.toNat,x.2))
  (S:=fun s=>Sg s (origin,path.map (trS four),nxt,hasMed,(if hasMed then med else 0),false,0,atomic,hasMaker,(if hasMaker then trA four makerAS else 0),(if hasMaker then maker else 0),comms,[]) 17 (if !four&&Zcz path then some path else none) none) (s:=s8) (fun hc=>by
   have g:=(g8.see (k:=17) (by decide) (by decide))
   refine ⟨_,Zmt (fl:=twoF 192) (kind:=17) g8.le (by decide) (by decide) (by decide),?_⟩
   have h4:four=false:=by cases four<;>simp_all
   have e:oneF four 17 (Zbo true path) (s8.see 17)=⟨(s8.see 17).a,(s8.see 17).worst,(s8.see 17).seen,some path,(s8.see 17).m4⟩:=by unfold oneF;rw [g.a];simp only;rw [if_neg (by decide),if_neg (by decide),if_neg (by decide),if_neg (by decide),if_neg (by decide),if_neg (by decide),if_neg (by decide),if_pos trivial,h4,if_neg (by decide),Zchb true hpath,Zcgg]
   rw [e,hc];exact ⟨g.a,g.w,g.le,g.kn,g.s1,g.s2,g.s3,rfl,g.q⟩) (fun hc=>by rw [hc];exact g8.mono (by decide))
 obtain ⟨s18,e18,g18⟩:=Zmx (four:=four) (c:=!four&&(hasMaker&&Zbx makerAS)) (p:=(192,18,be4 makerAS.toNat++be4 maker.toNat)) (rest:=others.map fun x=>(224,x.1.toNat,x.2))
  (S:=fun s=>Sg s (origin,path.map (trS four),nxt,hasMed,(if hasMed then med else 0),false,0,atomic,hasMaker,(if hasMaker then trA four makerAS else 0),(if hasMaker then maker else 0),comms,[]) 18 (if !four&&Zcz path then some path else none) (if !four&&(hasMaker&&Zbx makerAS) then some (makerAS,maker) else none)) (s:=s17) (fun hc=>by
   have g:=(g17.see (k:=18) (by decide) (by decide))
   refine ⟨_,Zmt (fl:=twoF 192) (kind:=18) g17.le (by decide) (by decide) (by decide),?_⟩
   have h4:four=false:=by cases four<;>simp_all
   have hb:Zbx makerAS=true:=by cases h:Zbx makerAS<;>simp_all
   have hb2:65535<makerAS.toNat:=by unfold Zbx at hb;exact of_decide_eq_true hb
   have q1:(be4 makerAS.toNat++be4 maker.toNat).take 4=be4 makerAS.toNat:=rfl;have q2:(be4 makerAS.toNat++be4 maker.toNat).drop 4=be4 maker.toNat:=rfl;have e:oneF four 18 (be4 makerAS.toNat++be4 maker.toNat) (s17.see 18)=⟨(s17.see 18).a,(s17.see 18).worst,(s17.see 18).seen,(s17.see 18).p4,some (makerAS,maker)⟩:=by unfold oneF;rw [g.a];simp only [q1,q2];rw [if_neg (by decide),if_neg (by decide),if_neg (by decide),if_neg (by decide),if_neg (by decide),if_neg (by decide),if_neg (by decide),if_neg (by decide),if_pos trivial,h4,if_neg (by decide),Zqg _ hmak,if_pos ⟨rfl,by omega⟩,Zpr,Zpr]
   rw [e,hc];exact ⟨g.a,g.w,g.le,g.kn,g.s1,g.s2,g.s3,g.p,rfl⟩) (fun hc=>by rw [hc];exact g17.mono (by decide))
 obtain ⟨s,f1,f2,f3,f4,f5,f6⟩:=Zcfg four (n:=0) others [] (-1) s18 hoth (by simpa using ho8) (by simp) (by omega) g18.a (fun k hk=> .inl (g18.kn k hk))
 refine ⟨s,?_,f2,f3.trans g18.w,f4.trans g18.p,f5.trans g18.q,f6 1 g18.s1,f6 2 g18.s2,f6 3 g18.s3⟩;rw [e4,e6,e7,e8,e17,e18];exact f1
def Zjz (a:Za):Za:=(a.origin,a.path,a.next,a.hasMed,(if a.hasMed then a.med else 0),false,0,a.atomic,a.hasMaker,(if a.hasMaker then a.makerAS else 0),(if a.hasMaker then a.maker else 0),a.comms,a.others)
theorem Zcni {four:Bool} {a:Za} {s:RdS} (hok:Zbh a.path=true) (h1:s.a=gotA four a) (h3:s.p4=gotP four a) (h4:s.m4=gotM four a) (hx: ¬(four=false∧Zcz a.path=true∧a.hasMaker=true∧a.makerAS.toNat <= 65535∧a.makerAS≠23456)):Zdt s=Zjz a:=by
 obtain ⟨origin,path,nxt,hasMed,med,hasLocal,loc,atomic,hasMaker,makerAS,maker,comms,others⟩:=a;simp only [gotA,gotP,gotM,Zjz,Za.origin,Za.path,Za.next,Za.hasMed,Za.med,Za.atomic,Za.hasMaker,Za.makerAS,Za.maker,Za.comms,Za.others] at*;unfold Zdt;rw [h1,h3,h4];simp only;cases four with
 | true=>
  simp only [Zcgg,Yha,Yka];have e:trA true makerAS=makerAS:=rfl;rw [e];cases hasMaker<;>simp
 | false=>
  simp only [YJa,YT];by_cases hg:Zcz path=true
  ·have hm:Zei (path.map (trS false)) path=path:=Zdmo path;rw [hg,if_pos rfl];simp only [hm,hok,if_true];cases hasMaker with
   | false=>simp
   | true=>
    simp only [if_true,YT,true_and];by_cases hb:Zbx makerAS=true
    ·have hb2:65535<makerAS.toNat:=by unfold Zbx at hb;exact of_decide_eq_true hb
     have e:trA false makerAS=23456:=by unfold trA;rw [if_neg (by decide),if_pos hb2]
     rw [e,hb,if_neg (by simp),if_pos rfl]
    ·have hb:Zbx makerAS=false:=by simpa using hb
     have hb2: ¬65535<makerAS.toNat:=by unfold Zbx at hb;exact of_decide_eq_false hb
     have e:trA false makerAS=makerAS:=by unfold trA;rw [if_neg (by decide),if_neg hb2]
     have e2:makerAS=23456:=Classical.byContradiction fun h=>hx ⟨rfl,hg,rfl,by omega,h⟩
     rw [e,hb,e2];simp
  ·have hg:Zcz path=false:=by simpa using hg
   rw [hg,Zdem hg];simp only [Y8,if_false];cases hasMaker with
   | false=>simp
   | true=>
    simp only [if_true,YT,true_and];by_cases hb:Zbx makerAS=true
    ·have hb2:65535<makerAS.toNat:=by unfold Zbx at hb;exact of_decide_eq_true hb
     have e:trA false makerAS=23456:=by unfold trA;rw [if_neg (by decide),if_pos hb2]
     rw [e,hb,if_neg (by simp),if_pos rfl]
    ·have hb:Zbx makerAS=false:=by simpa using hb
     have hb2: ¬65535<makerAS.toNat:=by unfold Zbx at hb;exact of_decide_eq_false hb
     have e:trA false makerAS=makerAS:=by unfold trA;rw [if_neg (by decide),if_neg hb2]
     rw [e,hb];simp
theorem Zcsu (four told:Bool) {a:Za} (ha:Zdh a=true): ∃r,Zci four told (Zck four a)=(r,0,none)∧
  (¬(four=false∧Zcz a.path=true∧a.hasMaker=true∧a.makerAS.toNat <= 65535∧a.makerAS≠23456)->r=Zjz a):=by
 obtain ⟨s,e,h1,h2,h3,h4,k1,k2,k3⟩:=Zdhi four a ha;have ha':=ha;simp only [Zdh,Ya,decide_eq_true_eq] at ha';obtain ⟨⟨⟨⟨⟨⟨ho0,ho2⟩,hpath⟩,hnext⟩,hmk⟩,hcm⟩,hoth,ho8⟩:=ha';have hO: ∀(l:List Raw) (last:Int), -1 <= last->Zcj last l=true->∀x∈l,0 <= x.1∧x.1 <= 255∧x.2.length <= 255:=by
  intro l;induction l with
  | nil=>intro _ _ _ x hx;simp at hx
  | cons y l ih=>
   intro last hl h x hx;simp only [Zcj,Ya,decide_eq_true_eq] at h;rcases Yj.1 hx with rfl | hx;omega;exact ih y.1 (by omega) h.2 x hx
 have hO':=hO a.others (-1) (by omega) hoth
 have hp: ∀p∈Zmi four a,okFl p.1∧p.2.1<256∧p.2.2.length <= 65535:=by
  intro p hp;have l0:=Zqu (four:=four) hpath;have l1:=Zqu (four:=true) hpath;have l2:=Zzf four a.makerAS;have l3:=Zty a.comms;have b4: ∀n,(be4 n).length=4:=fun _=>rfl;simp only [Zmi,optP,Yw,Yj,YBa,or_false,YS] at hp;rcases hp with (rfl | rfl | rfl) | hp | hp | hp | hp | hp | hp | ⟨x,hx,rfl⟩;exact ⟨.inl rfl,by simp,by simp⟩
  exact ⟨.inl rfl,by simp,by simp only;omega⟩
  exact ⟨.inl rfl,by simp,by simp only [b4];omega⟩
  ·split at hp;rw [YB] at hp;subst hp;exact ⟨.inr (.inl rfl),by simp,by simp only [b4];omega⟩
   simp at hp
  ·split at hp;rw [YB] at hp;subst hp;exact ⟨.inl rfl,by simp,by simp⟩
   simp at hp
  ·split at hp;rw [YB] at hp;subst hp;exact ⟨.inr (.inr (.inl rfl)),by simp,by simp only [Yb,b4];omega⟩
   simp at hp
  ·split at hp;rw [YB] at hp;subst hp;exact ⟨.inr (.inr (.inl rfl)),by simp,by simp only [l3];omega⟩
   simp at hp
  ·split at hp;rw [YB] at hp;subst hp;exact ⟨.inr (.inr (.inl rfl)),by simp,by simp only;omega⟩
   simp at hp
  ·split at hp;rw [YB] at hp;subst hp;exact ⟨.inr (.inr (.inl rfl)),by simp,by simp only [Yb,b4];omega⟩
   simp at hp
  have:=hO' x hx;exact ⟨.inr (.inr (.inr rfl)),by simp only;omega,by simp only;omega⟩
 have hl:=Zbtk four (Zmi four a) (Zck four a).length rd0 s hp (by rw [Zcbg four a fun x hx=>(hO' x hx).1];exact Yh _) e
 rw [← Zcbg four a fun x hx=>(hO' x hx).1] at hl;refine ⟨Zdt s,?_,fun hx=>Zcni hpath h1 h3 h4 hx⟩;unfold Zci;rw [hl];simp only;have hs':(if told=true∧¬(1∈s.seen∧2∈s.seen∧3∈s.seen) then s.found 2 else s)=s:=if_neg fun h=>h.2 ⟨k1,k2,k3⟩
 rw [hs',if_neg (by rw [h2];decide),h2]
theorem Zcfd {k:Int} {d:List UInt8} {x:Raw}: ∀l:List Raw,x∈insO k d l->x=(k,d)∨x∈l
 | [],h=>by simp only [insO,YB] at h;exact .inl h
 | y::r,h=>by simp only [insO] at h;split at h;rcases Yj.1 h with rfl | h;exact .inr Yk;rcases Zcfd r h with h | h;exact .inl h;exact .inr (Yi _ h);rcases Yj.1 h with h | h;exact .inl h;exact .inr h
structure SafeS (s:RdS):Prop where
 o:0 <= s.a.origin∧s.a.origin <= 2
 p:s.worst <= 1->2∈s.seen->Zbh s.a.path=true
 n:s.worst <= 1->3∈s.seen->s.a.next.toNat≠0∧s.a.next.toNat<3758096384
 l:s.a.hasLocal=false
 m:s.a.hasMaker=true->s.a.makerAS.toNat≠0
 c:s.a.comms.length <= 32∧(8∉s.seen->s.a.comms= [])
 t:Zcj (-1) s.a.others=true∧s.a.others.length <= 8∧∀x∈s.a.others,x.1.toNat∈s.seen∧0 <= x.1
 q: ∀z,s.m4=some z->z.1.toNat≠0
theorem Zyq {d:List UInt8} (h:numB d<4294967296):(u32B d).toNat=numB d:=by unfold u32B;rw [YOa,YV (by omega)]
theorem Zcij: ∀(d:List UInt8) (a:Nat),d.foldl (fun a x=>a*256+x.toNat) a<(a+1)*256^d.length
 | [],a=>by simp
 | x::d,a=>by
  have hx:=YD x;have ih:=Zcij d (a*256+x.toNat);simp only [List.foldl_cons,List.length_cons,Nat.pow_succ];have h3:(a*256+x.toNat+1)*256^d.length <= ((a+1)*256)*256^d.length:=Yy _ (by omega)
  have h4:(a+1)*256*256^d.length=(a+1)*(256^d.length*256):=by rw [Yrb,Yla 256]
  omega
theorem Zcac {d:List UInt8} (h:d.length <= 4):numB d<4294967296:=by
 have h1:=Zcij d 0;have h2:256^d.length <= 256^4:=YW (by decide) h
 have h3:(256:Nat)^4=4294967296:=rfl;unfold numB;omega
theorem Zcaj {T X:Type} {fin:T->Prop} {body:T->X->(T->Prop)->Prop} (S:List X->T): ∀(post pre:List X),(∀pre' x post',pre++post=pre'++x::post'->∀next:T->Prop,next (S (pre'++[x]))->body (S pre') x next)->fin (S (pre++post))->Zdv fin body post (S pre)
 | [],pre,_,he=>by rw [Yv] at he;exact he
 | x::r,pre,hr,he=>by
  have e:pre++x::r=(pre++[x])++r:=by simp
  exact hr pre x r rfl _ (Zcaj S r (pre++[x]) (fun pre' y post' h=>hr pre' y post' (by rw [e];exact h)) (by rw [← e];exact he))
theorem Zchx (l:List UInt8) (x:UInt8):numB (l++[x])=numB l*256+x.toNat:=by simp [numB]
theorem Zbdi: ∀(d:List UInt8),numB d<256^d.length:=fun d=>by
 have: ∀(d:List UInt8) (a:Nat),d.foldl (fun a x=>a*256+x.toNat) a<(a+1)*256^d.length:=by
  intro d;induction d with
  | nil=>intro a;simp
  | cons x d ih=>
   intro a;have hx:=YD x;have ih:=ih (a*256+x.toNat);simp only [List.foldl_cons,List.length_cons,Nat.pow_succ];have h3:(a*256+x.toNat+1)*256^d.length <= ((a+1)*256)*256^d.length:=Yy _ (by omega)
   have h4:(a+1)*256*256^d.length=(a+1)*(256^d.length*256):=by rw [Yrb,Yla 256]
   omega
 have:=this d 0;unfold numB;omega
theorem Zbmo {size:Nat} (hs:1 <= size): ∀(n:Nat) (s:List UInt8),s.length=n*size->(Zgk s size).map (fun c=>UInt32.ofNat (numB c.1))=decN size n s∧∀c∈Zgk s size,c.1.length=size
 | 0,s,h=>by
  have:s= []:=Yl (by omega)
  subst this;exact ⟨rfl,fun c hc=>by simp [Zdaz] at hc⟩
 | n+1,s,h=>by
  have hne:s≠[]:=fun e=>by subst e;simp [Ypa] at h;omega
  rw [Ypa] at h;rw [Zciq (by omega) hne]
  obtain ⟨h1,h2⟩:=Zbmo hs n (s.drop size) (by rw [Yq];omega)
  rw [Int.toNat_natCast];refine ⟨by simp only [YG,decN,h1],fun c hc=>?_⟩
  rcases Yj.1 hc with rfl | hc;simp only [Yo];omega;exact h2 c hc
def rpK (four:Bool) (b:List UInt8) (K:List Seg->Int->Prop):Prop:=match Zew four b with
 | some p=>K p 0
 | none=>K [] 7
def rpT (size:Nat) (p:List Seg) (r:List UInt8) (K:List Seg->Int->Prop):Prop:=match Zfl size r.length r with
 | some t=>if Zbh (p++t)=true then K (p++t) 0 else K [] 7
 | none=>K [] 7
theorem Zddo {size:Nat} {p:List Seg} {K:List Seg->Int->Prop} (h:rpT size p [] K):if Zbh p=true then K p 0 else K [] 7:=by unfold rpT at h;simp only [List.length_nil,Zfl,Yv] at h;exact h
theorem Zddl {size:Nat} {p:List Seg} {x:UInt8} {K:List Seg->Int->Prop} (h:rpT size p [x] K):K [] 7:=by unfold rpT at h;simp only [List.length_cons,List.length_nil,Zfl] at h;exact h
theorem Zdms {size:Nat} {p:List Seg} {x y:UInt8} {r:List UInt8} {K:List Seg->Int->Prop} (hc: ¬((x=1∨x=2)∧y.toNat*size <= r.length)) (h:rpT size p (x::y::r) K):K [] 7:=by unfold rpT at h;simp only [List.length_cons,Zfl] at h;rw [if_neg hc] at h;exact h
theorem Zdib {size:Nat} {p:List Seg} {x y:UInt8} {r:List UInt8} {K:List Seg->Int->Prop} (hc:(x=1∨x=2)∧y.toNat*size <= r.length) (h:rpT size p (x::y::r) K):rpT size (p++[(x==1,decN size y.toNat r)]) (r.drop (y.toNat*size)) K:=by
 unfold rpT at h ⊢;simp only [List.length_cons,Zfl] at h;rw [if_pos hc,Zcao size (r.length+1) (r.drop (y.toNat*size)).length _ (by simp only [Yq];omega) (Yh _)] at h
 cases hs:Zfl size (r.drop (y.toNat*size)).length (r.drop (y.toNat*size)) with
 | none=>rw [hs] at h;exact h
 | some t=>
  rw [hs] at h;simp only [Option.map_some] at h;simp only [Yu,List.cons_append,List.nil_append];exact h
theorem Zded {four:Bool} {b:List UInt8} {K:List Seg->Int->Prop} (h:rpK four b K):rpT (Zdk four) [] b K:=by
 unfold rpK Zew at h;unfold rpT;cases hs:Zfl (Zdk four) b.length b with
 | none=>rw [hs] at h;exact h
 | some t=>
  rw [hs] at h;simp only [List.nil_append] at h ⊢;by_cases hp:Zbh t=true;rw [if_pos hp] at h ⊢;exact h;rw [if_neg hp] at h ⊢;exact h
theorem Zcqh (p:List Seg) (s:Seg):cnt (p++[s])=cnt p+s.2.length:=by simp [cnt]
theorem Zcec (b:List UInt8) (size:Nat) (K:List Seg->Int->Prop) (hs:size=4∨size=2) (hl:b.length <= 1000000000) (h:rpT size [] b K):Zwv b size K:=by
 unfold Zwv;refine ⟨fun k x=>∃(r:List UInt8) (p:List Seg),x=(r,p,())∧k=r.length∧p.length+cnt p+r.length <= b.length∧rpT size p r K,b.length,⟨b,[],rfl,rfl,by simp [cnt],h⟩,?_⟩
 rintro k x ⟨r,p,rfl,rfl,hlen,hr⟩;intro _;dsimp only [Zbyx];cases r with
 | nil=>
  refine ifF rfl fun _=>Zwg p _ (by omega) (by omega) fun _=>?_
  have h1:=Zddo hr;cases hp:Zbh p with
  | true=>rw [hp,if_pos rfl] at h1;exact ifT rfl h1
  | false=>rw [hp,if_neg (by decide)] at h1;exact ifF rfl h1
 | cons x r=>
 refine ifT (decide_eq_true (by simp only [List.length_cons];omega)) ?_
 cases r with
 | nil=>
  refine ifT rfl ?_;unfold Zjd;exact ifT rfl (Zddl hr)
 | cons y r=>
 simp only [List.length_cons] at hlen;have hx:=YD x;have hy:=YD y;have hsz:size <= 4∧1 <= size:=by omega
 have hmul:y.toNat*size <= 255*4:=YKa (by omega) hsz.1
 have wl:IntKind.wrap .i64 ((((x::y::r).length:Nat):Int) - 2)=(r.length:Int):=by rw [Zh (by simp only [List.length_cons];omega) (by simp only [List.length_cons];omega)];simp only [List.length_cons];omega
 have wm:IntKind.wrap .i64 (IntKind.wrap .i64 (y.toNat:Int)*(size:Int))=((y.toNat*size:Nat):Int):=by rw [Zh (n:=(y.toNat:Int)) (by omega) (by omega),← Int.natCast_mul,Zh (by omega) (by omega)]
 have bad: ¬((x=1∨x=2)∧y.toNat*size <= r.length)->Zjd (x::y::r) size p (fun x'=>∃k',k'<(x::y::r).length∧∃(r:List UInt8) (p:List Seg),x'=(r,p,())∧k'=r.length∧p.length+cnt p+r.length <= b.length∧rpT size p r K) true K:=fun hc=>by unfold Zjd;exact ifT rfl (Zdms hc hr)
 have good:(x=1∨x=2)->Zjd (x::y::r) size p (fun x'=>∃k',k'<(x::y::r).length∧∃(r:List UInt8) (p:List Seg),x'=(r,p,())∧k'=r.length∧p.length+cnt p+r.length <= b.length∧rpT size p r K) (decide (((y.toNat*size:Nat):Int)>(r.length:Int))) K:=fun hk=>by
  by_cases hc:y.toNat*size <= r.length
  case neg=>
   rw [decide_eq_true (by omega)]
   exact bad fun h=>hc h.2
  rw [decide_eq_false (by omega)]
  unfold Zjd;refine ifF rfl ⟨by decide,AtN.of rfl fun _=>⟨by decide,AtN.of rfl fun _=>?_⟩⟩
  have w2:IntKind.wrap .i64 (2+((y.toNat*size:Nat):Int))=((2+y.toNat*size:Nat):Int):=by rw [Zh (by omega) (by omega)];omega
  rw [wm,w2,Int.toNat_natCast];have hd:((x::y::r).take (2+y.toNat*size)).drop 2=r.take (y.toNat*size):=by rw [Y7];rfl
  have hdr:(x::y::r).drop (2+y.toNat*size)=r.drop (y.toNat*size):=by rw [Y7];rfl
  refine ⟨by omega,by simp only [List.length_cons];omega,by decide,by omega,ifF (decide_eq_false (by omega)) ⟨⟨by show (1:Int) <= size;omega,by show (size:Int) <= _;omega,?_⟩,?_⟩⟩
  show (((x::y::r).take (2+y.toNat*size)).drop 2).length <= _;rw [hd,Yo];omega
  ·show Zdv _ _ (Zgk (((x::y::r).take (2+y.toNat*size)).drop 2) (size:Int)) _;rw [hd];obtain ⟨c1,c2⟩:=Zbmo hsz.2 y.toNat (r.take (y.toNat*size)) (by rw [Yo];omega)
   have hx1:(((x.toNat:Int):Int)==1)=(x==1):=by by_cases e:x=1;subst e;rfl;rw [beq_eq_false_iff_ne.2 e,beq_eq_false_iff_ne.2 fun h=>e (YSa.1 (by show x.toNat=1;omega))]
   rw [hx1];refine Zcaj (fun pre:List (List UInt8×Unit)=>((x==1),pre.map (fun c=>UInt32.ofNat (numB c.1)),())) _ [] (fun pre c post hp2 next hn=>?_) ?_
   ·intro _ _;have hcl:c.1.length=size:=c2 c (by rw [← List.nil_append (Zgk _ _),hp2];simp)
    have hcn:(Zgk (r.take (y.toNat*size)) (size:Int)).length=y.toNat:=by have:=congrArg List.length c1;rw [Yz,Zbbs] at this;exact this
    have hpl:pre.length<y.toNat:=by have:=congrArg List.length hp2;simp only [Yb,List.length_cons,List.nil_append] at this;omega
    dsimp only [Zcla];refine Zl.over c.1 (fun z=>((numB z:Int),(z.length:Int),(x==1),pre.map (fun c=>UInt32.ofNat (numB c.1)),())) (fun _=>True) rfl trivial (fun z v post2 hz hz2 _ next2 hn2=>?_) (fun _ next2 _=>?_)
    ·intro _;dsimp only [Zbrl];have hv:=YD v;have hnb:=Zbdi z;have hz3:z.length <= 3:=by rw [hcl] at hz2;omega
     have hnb2:numB z<16777216:=by
      have:256^z.length <= 256^3:=YW (by decide) hz3
      omega
     refine ifT (decide_eq_true (by omega)) ⟨by omega,AtN.of (Zbe hz) fun _=>⟨by decide,of_eq (hn2 trivial) ?_⟩⟩
     rw [Zchx,show (numB z:Int)*256=((numB z*256:Nat):Int) by omega,wu32 (by omega),wu32 (by omega),Zix .u32 _ _ (Zgs (by omega)) (Zgs (by omega)),Ztk _ _ (by omega),wu32 (by omega),Zh (by omega) (by omega)]
     simp
    ·dsimp only [Zbrl];refine ifF (decide_eq_false (by omega)) ⟨by simp only [Yz,List.length_cons,List.length_nil];omega,of_eq hn ?_⟩
     have e:(ofI .u32 (numB c.1:Int):UInt32)=UInt32.ofNat (numB c.1):=by simp [ofI]
     rw [e,Yxa];rfl
   ·intro _;dsimp only [List.nil_append];rw [c1];unfold Zcew;rw [wm,w2,Int.toNat_natCast,hdr];have hdl:=Zbbs size y.toNat (r.take (y.toNat*size));have hdt:decN size y.toNat (r.take (y.toNat*size))=decN size y.toNat r:=by
     have: ∀(n:Nat) (s:List UInt8),n*size <= s.length->decN size n (s.take (n*size))=decN size n s:=by
      intro n;induction n with
      | zero=>intro s _;rfl
      | succ n ih=>
       intro s hsl;rw [Ypa] at hsl;simp only [decN];have e1:(s.take ((n+1)*size)).take size=s.take size:=by rw [List.take_take,Ycb];rw [Ypa];omega
       have e2:(s.take ((n+1)*size)).drop size=(s.drop size).take (n*size):=by rw [Ypb,Ypa,Nat.add_sub_cancel]
       rw [e1,e2,ih (s.drop size) (by rw [Yq];omega)]
     exact this y.toNat r hc
    have hny:y.toNat*1 <= y.toNat*size:=Nat.mul_le_mul_left _ hsz.2;refine ⟨by omega,by simp only [List.length_cons];omega,by simp only [List.length_cons,List.length_nil];omega,_,?_,_,_,rfl,rfl,?_,?_⟩
    simp only [Yq,List.length_cons];omega;rw [Zcqh,Yb,hdl];simp only [List.length_cons,List.length_nil,Yq];omega;rw [hdt];exact Zdib ⟨hk,hc⟩ hr
 refine ifF (decide_eq_false (by simp only [List.length_cons];omega)) ⟨by decide,AtN.of rfl fun _=>IfB.intro (fun h1=>?_) (fun h1=>?_)⟩
 ·have h1:x.toNat≠1:=fun e=>by rw [e] at h1;simp at h1
  refine ⟨by decide,AtN.of rfl fun _=>IfB.intro (fun h2=>?_) (fun h2=>?_)⟩
  ·have h2:x.toNat≠2:=fun e=>by rw [e] at h2;simp at h2
   exact bad fun h=>by rcases h.1 with e | e<;>subst e;exact h1 rfl;exact h2 rfl
  ·have h2:x.toNat=2:=by
    have:((x.toNat:Int):Int)=2:=by simpa using h2
    omega
   refine ⟨by decide,AtN.of rfl fun _=>?_⟩
   rw [wl,wm];exact good (.inr (YSa.1 h2))
 ·have h1:x.toNat=1:=by
   have:((x.toNat:Int):Int)=1:=by simpa using h1
   omega
  refine ⟨by decide,AtN.of rfl fun _=>?_⟩
  rw [wl,wm];exact good (.inl (YSa.1 h1))
theorem Zdkm (b:List UInt8) (four:Bool) (K:List Seg->Int->Prop) (hl:b.length <= 1000000000) (h:rpK four b K):Zblx b four K:=by
 unfold Zblx;have:=Zded h;cases four with
 | true=>exact ifT rfl (Zcec b 4 K (.inl rfl) hl this)
 | false=>exact ifF rfl (Zcec b 2 K (.inr rfl) hl this)
theorem Zdla (n:Int) (K:List UInt32->Prop) (h0:0 <= n) (hn:n <= 1000000000) (h:K []):Zyf n K:=by
 unfold Zyf;have e:IntKind.wrap .i64 (n - IntKind.wrap .i64 (0 - 0))=n:=by
  rw [Zh (n:=0 - 0) (by omega) (by omega)]
  exact Zh (by omega) (by omega) |>.trans (by omega)
 rw [e];refine ifF (decide_eq_false (by omega)) (IfB.intro (fun h1=>?_) (fun _=>h))
 have h1:0<n:=by simpa using h1
 exact ⟨by omega,by omega,h1,hn,by omega,by omega,by simpa using h⟩
theorem Zbsg {pre post:List (List UInt32)} {x:List UInt32}:(pre++x::post).flatten.length=pre.flatten.length+x.length+post.flatten.length:=by simp;omega
theorem Zdhf (l:List (List UInt32)) (K:List UInt32->Prop) (hl:l.length <= 1000000000) (hf:l.flatten.length <= 1000000000) (h:K l.flatten):Zbgx l K:=by
 unfold Zbgx;refine Zl.over l (fun pre=>((pre.flatten.length:Int),(pre.length:Int),())) (fun _=>True) rfl trivial (fun pre x post hp hn _ next hx=>?_) (fun _ next _=>?_)
 ·intro _;dsimp only [Zboy];have hs:=Zbsg (pre:=pre) (x:=x) (post:=post);rw [← hp] at hs;refine ifT (decide_eq_true (by omega)) ⟨by omega,AtN.of (Zbe hp) fun _=>?_⟩
  rw [Zh (n:=(pre.flatten.length:Int)+x.length) (by omega) (by omega)]
  refine ifF (decide_eq_false (by omega)) (of_eq (hx trivial) ?_)
  rw [Zh (by omega) (by omega)]
  simp
 ·dsimp only [Zboy];refine ifF (decide_eq_false (by omega)) fun _=>Zdla _ _ (by omega) (by omega) fun _=>?_
  refine Zl.over l (fun pre=>(pre.flatten,(pre.length:Int),())) (fun _=>True) rfl trivial (fun pre x post hp hn _ next hx=>?_) (fun _ next _=>?_)
  ·intro _;dsimp only [Zbpv];have hs:=Zbsg (pre:=pre) (x:=x) (post:=post);rw [← hp] at hs;refine ifT (decide_eq_true (by omega)) ⟨by omega,AtN.of (Zbe hp) fun _=>⟨by omega,of_eq (hx trivial) ?_⟩⟩
   rw [Zh (by omega) (by omega)]
   simp
  dsimp only [Zbpv];exact ifF (decide_eq_false (by omega)) h
theorem Zbys (p q:List Seg):lenP (p++q)=lenP p+lenP q:=by simp [lenP]
theorem Zxo: ∀p:List Seg,lenP p <= p.length+cnt p
 | []=>by simp [lenP]
 | s::p=>by
  have ih:=Zxo p;have e1:lenP (s::p)=(if s.1 then 1 else s.2.length)+lenP p:=by simp [lenP]
  have e2:cnt (s::p)=s.2.length+cnt p:=by simp [cnt]
  rw [e1,e2,List.length_cons];split<;>omega
theorem Zcjs (p:List Seg) (K:Int->Prop) (hl:p.length+cnt p <= 1000000000) (h:K (lenP p)):Zti p K:=by
 unfold Zti;refine Zl.over p (fun pre=>((lenP pre:Int),(pre.length:Int),())) (fun _=>True) rfl trivial (fun pre s post hp hn _ next hx=>?_) (fun _ next _=>?_)
 ·intro _;dsimp only [Zblr,Zbqc];have e:=Zbys pre (s::post);rw [← hp] at e;have e2:lenP (pre++[s])=lenP pre+(if s.1 then 1 else s.2.length):=by rw [Zbys];simp [lenP]
  have e3:lenP (s::post)=(if s.1 then 1 else s.2.length)+lenP post:=by simp [lenP]
  have hle:=Zxo p;refine ifT (decide_eq_true (by omega)) ⟨by omega,AtN.of (Zbe hp) fun _=>IfB.intro (fun h1=>of_eq (hx trivial) ?_) (fun h1=>of_eq (hx trivial) ?_)⟩
  ·rw [h1,if_pos rfl] at e2 e3;rw [Zh (by omega) (by omega),Zh (by omega) (by omega),e2]
   simp
  ·rw [h1,if_neg (by decide)] at e2 e3
   rw [Zh (by omega) (by omega),Zh (by omega) (by omega),e2]
   simp
 dsimp only [Zblr];exact ifF (decide_eq_false (by omega)) h
theorem Zdkc (s:List UInt32) (K:List UInt32->Prop) (hl:s.length <= 1000000000) (h:K s):Zbix s K:=by
 intro isnil hn;refine IfB.intro (fun h1=>?_) (fun _=>⟨by simp only [List.length_nil];omega,by simpa using h⟩)
 have:s= []:=Yl (hn h1);rw [this] at h;exact h
theorem Zbcz {p:List Seg} {s:Seg} (h:s∈p):s.2.length <= cnt p:=by obtain ⟨a,b,rfl⟩:=Yea h;simp [cnt];omega
theorem Zboh (p:List Seg) (K:List Seg->Prop) (hl:p.length+cnt p <= 1000000000) (h:K p):Zpg p K:=by
 unfold Zpg;refine ⟨by decide,by omega,by omega,?_⟩
 refine Zl.over p (fun pre=>(pre,(pre.length:Int),())) (fun _=>True) rfl trivial (fun pre s post hp hn _ next hx=>?_) (fun _ next _=>?_)
 ·intro _;dsimp only [Zbrb];have hm:=Zbcz (p:=p) (s:=s) (by rw [hp];simp)
  refine ifT (decide_eq_true (by omega)) ⟨by omega,AtN.of (Zbe hp) fun _ _=>Zdkc s.2 _ (by omega) fun _=>⟨by simp only [List.length_cons,List.length_nil];omega,of_eq (hx trivial) ?_⟩⟩
  rw [Zh (by omega) (by omega)]
  simp
 dsimp only [Zbrb];exact ifF (decide_eq_false (by omega)) h
theorem Zdep (p:List Seg) (n0:Nat) (K:List Seg->Prop) (hl:p.length+cnt p <= 1000000000) (hn0:n0 <= 1000000000) (h:K (Zct p n0)):Zbbh p n0 K:=by
 unfold Zbbh;refine fun _=>Zboh p _ hl fun _=>?_;refine ⟨fun k x=>∃(i n:Nat) (out:List Seg),x=((n:Int),out,(i:Int),())∧k=p.length - i∧i <= p.length∧out++Zct (p.drop i) n=Zct p n0∧out.length <= i∧n <= n0,p.length,⟨0,n0,[],rfl,by omega,YI _,rfl,by simp,Yh _⟩,?_⟩
 rintro k x ⟨i,n,out,rfl,rfl,hi,ho,hlen,hnn⟩;intro _;dsimp only [Zbsf];by_cases h1:i<p.length
 case neg=>
  refine ifF (decide_eq_false (by omega)) ?_
  rw [YCa (by omega)] at ho
  have e:Zct [] n= []:=by cases n<;>rfl
  rw [e,Yv] at ho;rw [ho];exact h
 have hd:p.drop i=p[i]::p.drop (i+1):=YIa h1;have hm:=Zbcz (p:=p) (s:=p[i]) (Yza h1);refine ifT (decide_eq_true (by omega)) ⟨by omega,by omega,AtN.of (by rw [Int.toNat_natCast];exact Yc h1) fun _=>IfB.intro (fun h2=>?_) (fun h2=>?_)⟩
 ·have h2:n=0:=by have:=of_decide_eq_true h2;omega
  subst h2;have e:Zct (p.drop i) 0= []:=by cases p.drop i<;>rfl
  rw [e,Yv] at ho;rw [ho];exact h
 have h2:0<n:=by have:=of_decide_eq_false h2;omega
 obtain ⟨m,rfl⟩: ∃m,n=m+1:=⟨n - 1,by omega⟩
 have hw:IntKind.wrap .i64 ((i:Int)+1)=((i+1:Nat):Int):=by rw [Zh (by omega) (by omega)];omega
 rw [hd] at ho;refine IfB.intro (fun h3=>?_) (fun h3=>?_)
 ·unfold Zbfq;rw [hw];have e:Zct (p[i]::p.drop (i+1)) (m+1)=p[i]::Zct (p.drop (i+1)) m:=by simp only [Zct];rw [if_pos h3]
  rw [e] at ho;refine ⟨by simp only [List.length_cons,List.length_nil];omega,p.length - (i+1),by omega,i+1,m,out++[p[i]],?_,rfl,by omega,by rw [Yu];exact ho,by simp only [Yb,List.length_cons,List.length_nil];omega,by omega⟩
  rw [Zh (by omega) (by omega)]
  congr 1;omega
 ·unfold Zbfq;rw [hw];have hmin:(min ((m+1:Nat):Int) (p[i].2.length:Int)).toNat=min (m+1) p[i].2.length:=by omega
  rw [hmin];have htk:p[i].2.take (min (m+1) p[i].2.length)=p[i].2.take (m+1):=by rcases Nat.le_total (m+1) p[i].2.length with h4 | h4;rw [Ycb h4];rw [Nat.min_eq_right h4,Yra,YX h4]
  rw [htk];have e:Zct (p[i]::p.drop (i+1)) (m+1)=(p[i].1,p[i].2.take (m+1))::Zct (p.drop (i+1)) (m+1 - min (m+1) p[i].2.length):=by simp only [Zct];rw [if_neg (by rw [h3];decide)]
  rw [e] at ho;refine ⟨by omega,by omega,by simp only [List.length_cons,List.length_nil];omega,p.length - (i+1),by omega,i+1,m+1 - min (m+1) p[i].2.length,out++[(p[i].1,p[i].2.take (m+1))],?_,rfl,by omega,by rw [Yu];exact ho,by simp only [Yb,List.length_cons,List.length_nil];omega,by omega⟩
  rw [Yo,Zh (by omega) (by omega)]
  congr 1;omega
theorem Zbeg: ∀(p:List Seg) (n:Nat),(Zct p n).length <= p.length∧cnt (Zct p n) <= cnt p
 | [],n=>by cases n<;>simp [Zct,cnt]
 | s::p,0=>by simp [Zct,cnt]
 | s::p,n+1=>by
  have e2:cnt (s::p)=s.2.length+cnt p:=by simp [cnt]
  simp only [Zct];split
  ·obtain ⟨h1,h2⟩:=Zbeg p n;have e3:cnt (s::Zct p n)=s.2.length+cnt (Zct p n):=by simp [cnt]
   rw [e3,e2];simp only [List.length_cons];omega
  ·obtain ⟨h1,h2⟩:=Zbeg p (n+1 - min (n+1) s.2.length);have e3:cnt ((s.1,s.2.take (n+1))::Zct p (n+1 - min (n+1) s.2.length))=(s.2.take (n+1)).length+cnt (Zct p (n+1 - min (n+1) s.2.length)):=by simp [cnt]
   rw [e3,e2];simp only [List.length_cons,Yo];omega
theorem Zdkh (two four:List Seg) (K:List Seg->Prop) (h2:two.length+cnt two <= 1000000) (h4:four.length+cnt four <= 1000000) (h:K (Zei two four)):Zbmt two four K:=by
 have l2:=Zxo two;have l4:=Zxo four;unfold Zbmt;refine fun _=>Zcjs two _ (by omega) fun _ _=>Zcjs four _ (by omega) fun _=>?_
 rw [Zh (n:=(lenP two:Int) - (lenP four:Int)) (by omega) (by omega)]
 unfold Zei at h;by_cases hlt:lenP two<lenP four;rw [if_pos hlt] at h;exact ifT (decide_eq_true (by omega)) fun _=>Zboh two _ (by omega) fun _=>h
 rw [if_neg hlt] at h;have hsub:(lenP two:Int) - (lenP four:Int)=((lenP two - lenP four:Nat):Int):=by omega
 rw [hsub];refine ifF (decide_eq_false (by omega)) fun _=>Zdep two _ _ (by omega) (by omega) fun _ _=>Zboh four _ (by omega) fun _=>?_
 obtain ⟨f1,f2⟩:=Zbeg two (lenP two - lenP four);generalize Zct two (lenP two - lenP four)=out at*;have plain:Zjo out four=out++four->Zlw out four false K:=fun e=>by unfold Zlw Zyl;rw [e] at h;exact ifF rfl ⟨by omega,h⟩
 rw [Zh (n:=(out.length:Int) - 1) (by omega) (by omega)]
 rcases List.eq_nil_or_concat out with rfl | ⟨init,s,rfl⟩;exact ifF (by rfl) (plain rfl)
 have hlast:(init++[s]).getLast? =some s:=by simp
 have hlen:(((init++[s]).length:Nat):Int) - 1=(init.length:Int):=by simp
 have hat:(init++[s])[init.length]? =some s:=by simp
 rw [List.concat_eq_append] at*;rw [hlen];refine ifT (decide_eq_true (by omega)) ?_
 cases four with
 | nil=>
  refine ifF (by rfl) (plain ?_)
  unfold Zjo;rw [hlast]
 | cons t rest=>
  refine ifT (decide_eq_true (by simp only [List.length_cons];omega)) ⟨by omega,by simp only [Yb,List.length_cons,List.length_nil];omega,?_⟩
  rw [Int.toNat_natCast];refine AtN.of hat fun _=>IfB.intro (fun h5=>?_) (fun h5=>plain ?_)
  ·refine ⟨by decide,by simp only [List.length_cons];omega,AtN.of rfl fun _=>?_⟩
   cases h6:t.1 with
   | true=>
    refine plain ?_;unfold Zjo;rw [hlast];simp only [h6,Yha,YVa,Y8,if_false]
   | false=>
    have hg:Zjo (init++[s]) (t::rest)=init++(s.1,s.2++t.2)::rest:=by unfold Zjo;rw [hlast];simp only [h5,h6,YJa,Ygb,if_true,List.dropLast_concat]
    rw [hg] at h;have hs:=Zbcz (p:=init++[s]) (s:=s) (by simp)
    have ht:=Zbcz (p:=t::rest) (s:=t) (by simp)
    unfold Zlw;refine ifT rfl ?_;rw [Zh (n:=(((init++[s]).length:Nat):Int) - 1) (by omega) (by omega),hlen,Int.toNat_natCast]
    refine ⟨by omega,by simp only [Yb,List.length_cons,List.length_nil];omega,AtN.of hat fun _=>⟨by decide,by simp only [List.length_cons];omega,AtN.of rfl fun _ _=>Zdhf [s.2,t.2] _ (by simp) (by simp;omega) fun _=>⟨by omega,by simp only [Yb,List.length_cons,List.length_nil];omega,AtN.of hat fun _=>⟨by decide,by simp only [List.length_cons];omega,?_⟩⟩⟩⟩
    unfold Zyl;have e1:(init++[s]).set init.length (s.1,[s.2,t.2].flatten)=init++[(s.1,s.2++t.2)]:=by rw [Y8a _ _ (Yh _),YUa];simp
    rw [e1];refine ⟨by simp only [Yb,List.length_cons,List.length_nil,Yq] at*;omega,of_eq h ?_⟩
    simp
  ·have h5:s.1=true:=by simpa using h5
   unfold Zjo;rw [hlast];simp only [h5,Yha,Yka,Y8,if_false]
theorem Zcxg: ∀n:Nat,n<256->n&&& 192=n/64*64:=by decide+kernel
theorem Zdpj (n:Nat):n&&& 16=16*(n/16%2):=Zcqt 4 n
theorem Zdmt (x y z w:UInt8) (r:List UInt8) (K:Int->Prop) (h:K (numB [x,y,z,w])):Zbir (x::y::z::w::r) K:=by
 have hx:=YD x;have hy:=YD y;have hz:=YD z;have hw:=YD w;unfold Zbir;refine ⟨by decide,AtN.of rfl fun _=>⟨by decide,by decide,AtN.of rfl fun _=>⟨by decide,by decide,AtN.of rfl fun _=>⟨by decide,by decide,AtN.of rfl fun _=>of_eq h ?_⟩⟩⟩⟩
 rw [wu32 (a:=x.toNat) (by omega),wu32 (a:=y.toNat) (by omega),wu32 (a:=z.toNat) (by omega),wu32 (a:=w.toNat) (by omega),show (x.toNat:Int)*16777216=((2^24*x.toNat:Nat):Int) by omega,show (y.toNat:Int)*65536=((y.toNat*65536:Nat):Int) by omega,show (z.toNat:Int)*256=((z.toNat*256:Nat):Int) by omega,wu32 (a:=2^24*x.toNat) (by omega),wu32 (a:=y.toNat*65536) (by omega),wu32 (a:=z.toNat*256) (by omega)]
 rw [Zix .u32 _ _ (Zgs (by omega)) (Zgs (by omega)),Ztm 24 _ _ (by omega),wu32 (by omega)]
 rw [show 2^24*x.toNat+y.toNat*65536=2^16*(x.toNat*256+y.toNat) by omega,Zix .u32 _ _ (Zgs (by omega)) (Zgs (by omega)),Ztm 16 _ _ (by omega),wu32 (by omega)]
 rw [show 2^16*(x.toNat*256+y.toNat)+z.toNat*256=2^8*((x.toNat*256+y.toNat)*256+z.toNat) by omega,Zix .u32 _ _ (Zgs (by omega)) (Zgs (by omega)),Ztm 8 _ _ (by omega),wu32 (by omega)]
 simp only [numB,List.foldl_cons,List.foldl_nil];omega
def nxK (b:List UInt8) (K:(UInt8×Int×List UInt8×Int)->Bool->Prop):Prop:=match Zet b with
 | some (fl,kd,d,n)=>K (UInt8.ofNat fl,(kd:Int),d,(n:Int)) true
 | none=>K (0,0,[],0) false
theorem Zcpy (b:List UInt8) (K:(UInt8×Int×List UInt8×Int)->Bool->Prop) (hl:b.length <= 1000000000) (h:nxK b K):Zbnq b K:=by
 unfold Zbnq;unfold nxK Zet at h
 match b,hl,h with
 | [],_,h=>exact ifT rfl h
 | [_],_,h=>exact ifT rfl h
 | [_,_],_,h=>exact ifT rfl h
 | fl::kd::n1::r,hl,h=>
  have hf:=YD fl;have hk:=YD kd;have h1:=YD n1;simp only [List.length_cons] at hl;have eF:(ofI .u8 (Zhq .u8 (fl.toNat:Int) 192):UInt8)=UInt8.ofNat (fl.toNat/64*64):=by
   rw [show (192:Int)=((192:Nat):Int) from rfl,Zccy .u8 _ _ (Zbgb (by omega)) (Zbgb (by decide)),Zcxg _ (by omega)]
   have:IntKind.wrap .u8 ((fl.toNat/64*64:Nat):Int)=((fl.toNat/64*64:Nat):Int):=by rw [Zms];omega
   rw [this];show UInt8.ofNat (((fl.toNat/64*64:Nat):Int)).toNat=_;rw [Int.toNat_natCast]
  have eK:IntKind.wrap .i64 (kd.toNat:Int)=(kd.toNat:Int):=Zh (by omega) (by omega)
  have e16:Zhq .u8 (fl.toNat:Int) 16=((16*(fl.toNat/16%2):Nat):Int):=by
   rw [show (16:Int)=((16:Nat):Int) from rfl,Zccy .u8 _ _ (Zbgb (by omega)) (Zbgb (by decide)),Zdpj]
   rw [Zms];omega
  have tail: ∀(head n:Nat) (r':List UInt8),head <= 4->n <= 65535->(fl::kd::n1::r).length=head+r'.length->(fl::kd::n1::r).drop head=r'->(if n <= r'.length then K (UInt8.ofNat (fl.toNat/64*64),(kd.toNat:Int),r'.take n,((head+n:Nat):Int)) true else K (0,0,[],0) false)->Zbev (fl::kd::n1::r) (head:Int) (n:Int) K:=fun head n r' hh hn hlen hd hK=>by
   unfold Zbev;have hb:(fl::kd::n1::r).length <= 1000000000:=by simp only [List.length_cons];omega
   generalize hB:fl::kd::n1::r=B at*;rw [Zh (n:=(B.length:Int) - (head:Int)) (by omega) (by omega)]
   by_cases hc:n <= r'.length
   ·rw [if_pos hc] at hK;have w:IntKind.wrap .i64 ((head:Int)+(n:Int))=((head+n:Nat):Int):=by rw [Zh (by omega) (by omega)];omega
    rw [w,Int.toNat_natCast,Int.toNat_natCast];refine ifT (decide_eq_true (by omega)) ⟨by decide,AtN.of (by rw [← hB];rfl) fun _=>⟨by decide,AtN.of (x:=kd) (by rw [← hB];rfl) fun _=>⟨by omega,by omega,by omega,by omega,?_⟩⟩⟩
    rw [eF,eK];have e9:(B.take (head+n)).drop head=r'.take n:=by rw [Ypb,hd,show head+n - head=n by omega]
    rw [e9];exact hK
   rw [if_neg hc] at hK;exact ifF (decide_eq_false (by omega)) hK
  refine ifF (decide_eq_false (by simp only [List.length_cons];omega)) ⟨by decide,AtN.of rfl fun _=>⟨by decide,AtN.of rfl fun _=>IfB.intro (fun h2=>?_) (fun h2=>?_)⟩⟩
  ·have h2:fl.toNat/16%2=1:=by rw [e16] at h2;rcases Nat.mod_two_eq_zero_or_one (fl.toNat/16) with e | e;rw [e] at h2;simp at h2;exact e
   simp only at h;rw [if_pos h2] at h;cases r with
   | nil=>exact ifT rfl h
   | cons n2 r'=>
    have hn2:=YD n2;simp only [List.length_cons] at hl;refine ifF (decide_eq_false (by simp only [List.length_cons];omega)) ⟨by decide,by decide,AtN.of rfl fun _=>?_⟩
    rw [Zh (n:=(n1.toNat:Int)) (by omega) (by omega),Zh (n:=(n2.toNat:Int)) (by omega) (by omega),show (n1.toNat:Int)*256=((n1.toNat*256:Nat):Int) by omega,Zh (n:=((n1.toNat*256:Nat):Int)) (by omega) (by omega),Zix .i64 _ _ (Zmu (by omega)) (Zmu (by omega)),Ztk _ _ (by omega),Zh (n:=((n1.toNat*256+n2.toNat:Nat):Int)) (by omega) (by omega)]
    refine tail 4 (n1.toNat*256+n2.toNat) r' (by omega) (by omega) (by simp only [List.length_cons];omega) rfl ?_
    by_cases hc:n1.toNat*256+n2.toNat <= r'.length;simp only at h;rw [if_pos hc] at h ⊢;exact h;simp only at h;rw [if_neg hc] at h ⊢;exact h
  ·have h2: ¬fl.toNat/16%2=1:=fun e=>by rw [e16,e] at h2;simp at h2
   simp only at h;rw [if_neg h2] at h;rw [Zh (n:=(n1.toNat:Int)) (by omega) (by omega)]
   refine tail 3 n1.toNat r (by omega) (by omega) (by simp only [List.length_cons];omega) rfl ?_
   by_cases hc:n1.toNat <= r.length;rw [if_pos hc] at h ⊢;exact h;rw [if_neg hc] at h ⊢;exact h
end Go.Proofs.YthhcfdpoiganhaaGreat
end
