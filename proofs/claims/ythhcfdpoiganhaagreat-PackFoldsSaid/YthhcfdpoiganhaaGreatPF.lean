/-
 Gathered by a program of ours out of: /tmp/P33k.f.lean/tmp/L33k.f.lean/tmp/P21k.f.lean.
-/
import Derived.Test.YthhcfdpoiganhaaGreatQL
import Derived.Test.YthhcfdpoiganhaaGreatED
set_option linter.all false
section
set_option maxRecDepth 100000
namespace Go.Proofs.YthhcfdpoiganhaaGreat
open Go.Sh
theorem Zdki (p:List Seg) (K:List Seg->Prop) (hl:p.length<1000000000) (hs: ∀s∈p,s.2.length <= 35184372088736) (h:K p):Zbhk p K:=by
 unfold Zbhk;refine Zl.over p (fun pre=>(pre,(pre.length:Int),())) (fun _=>True) rfl trivial (fun pre s post hp hn _ next hx=>?_) (fun _ next _=>?_)
 ·intro _;dsimp only [Zblb];have:=hs s (by simp [hp])
  refine ifT (decide_eq_true (by omega)) ⟨by omega,AtN.of (Zbe hp) fun _=>⟨by omega,AtN.of (Zbe hp) fun _=>⟨by simpa using this,by simp only [List.length_cons,List.length_nil];omega,of_eq (hx trivial) ?_⟩⟩⟩
  rw [Zh (by omega) (by omega)];simp
 dsimp only [Zblb];exact ifF (decide_eq_false (by omega)) h
theorem Zcvy (a:Za) (K:Za->Prop) (hl:a.path.length<1000000000) (hs: ∀s∈a.path,s.2.length <= 35184372088736) (hm:a.comms.length <= 35184372088736) (ho:a.others.length <= 4398046511008) (hd: ∀x∈a.others,x.2.length <= 140737488355232) (h:K a):Zyt a K:=by
 obtain ⟨origin,path,nxt,hasMed,med,hasLocal,loc,atomic,hasMaker,makerAS,maker,comms,others⟩:=a;simp only [Za.path,Za.comms,Za.others] at*;dsimp only [Zyt];refine fun _=>Zdki path _ hl hs fun _=>⟨by simp only [List.length_nil];omega,?_⟩
 refine Zl.over others (fun pre=>((pre.length:Int),origin,path,(nxt.toNat:Int),hasMed,(med.toNat:Int),hasLocal,(loc.toNat:Int),atomic,hasMaker,(makerAS.toNat:Int),(maker.toNat:Int),comms,pre,())) (fun _=>True) rfl trivial (fun pre x post hp hn _ next hx=>?_) (fun _ next _=>?_)
 ·intro _;dsimp only [Prod.q,Zbip];have hx2:=hd x (by simp [hp])
  refine ifT (decide_eq_true (by omega)) ⟨by omega,AtN.of (Zbe hp) fun _=>⟨by omega,AtN.of (Zbe hp) fun _=>⟨by simp only [List.length_nil];omega,by simp only [List.length_cons,List.length_nil];omega,of_eq (hx trivial) ?_⟩⟩⟩
  rw [Zh (by omega) (by omega)]
  simp
 ·dsimp only [Prod.q,Zbip];refine ifF (decide_eq_false (by omega)) (of_eq h ?_)
  simp only [Zdc]
theorem Zcvu (s t:List Seg) (K:Bool->Prop) (hl:s.length <= 9223372036854775807) (hs: ∀x∈s,x.2.length <= 9223372036854775807) (h:K (s==t)):Zbhl s t K:=by
 unfold Zbhl;refine IfB.intro (fun h1=>of_eq h (Zmd h1)) (fun h1=>?_);have h1:=Zkz h1;refine Zl.over s (fun pre=>((pre.length:Int),())) (fun pre=>pre=t.take pre.length) rfl rfl (fun pre x post hp hn hP next hx=>?_) (fun hP next _=>?_)
 ·intro _;dsimp only [Zbpi];have hlt:pre.length<t.length:=by omega
  have hty:t[pre.length]? =some t[pre.length]:=Yc hlt;have hat:=at_len hlt;have hxl:=hs x (by simp [hp])
  generalize t[pre.length]=y at hty hat;have hne: ∀(g:x≠y),K false:=fun g=>of_eq h (mism hp hty g);have hj: ∀j:Bool,(j=true->x≠y)->(j=false->x.1=y.1∧x.2.length=y.2.length)->Zxq s t (pre.length:Int) next j K:=fun j k1 k2=>by
   unfold Zxq;refine IfB.intro (fun g=>hne (k1 g)) (fun g=>?_);obtain ⟨q1,q2⟩:=k2 g;refine Zl.over x.2 (fun l=>((l.length:Int),())) (fun l=>l=y.2.take l.length) rfl rfl (fun l z r hz hm hL next' hy=>?_) (fun hL next' _=>?_)
   ·intro _;dsimp only [Zbns];have hlt2:l.length<y.2.length:=by omega
    refine ⟨by omega,AtN.of (Zbe hp) fun _=>ifT (decide_eq_true (by omega)) ⟨by omega,AtN.of (Zbe hp) fun _=>⟨by omega,AtN.of (Zbe hz) fun _=>⟨by omega,AtN.of hat fun _=>⟨by omega,AtN.of (at_len hlt2) fun _=>?_⟩⟩⟩⟩⟩
    rw [ne32];refine IfB.intro (fun g2=>hne fun e=>?_) (fun g2=>of_eq (hy ?_) ?_)
    ·have g3:=mism hz (Yc hlt2) (by simpa using g2)
     rw [e] at g3;simp at g3
    exact Zkq hL (by rw [Yc hlt2];congr 1;simpa using (by simpa using g2:z=y.2[l.length]).symm)
    ·rw [Zh (by omega) (by omega)];simp
   ·dsimp only [Zbns];refine ⟨by omega,AtN.of (Zbe hp) fun _=>ifF (decide_eq_false (by omega)) (of_eq (hx ?_) ?_)⟩
    have e2:x.2=y.2:=beq_iff_eq.1 (Zkx hL q2);exact Zkq hP (by rw [hty];congr 1;exact Prod.ext q1.symm e2.symm)
    ·rw [Zh (by omega) (by omega)];simp
  refine ifT (decide_eq_true (by omega)) ⟨by omega,AtN.of (Zbe hp) fun _=>⟨by omega,AtN.of hat fun _=>?_⟩⟩
  refine IfB.intro (fun g=>hj true (fun _ e=>by rw [e] at g;simp at g) (fun g=>by cases g)) (fun g=>⟨by omega,AtN.of (Zbe hp) fun _=>⟨by omega,AtN.of hat fun _=>hj _ (fun g2 e=>by rw [e] at g2;simp at g2) (fun g2=>⟨by simpa using g,Zkz g2⟩)⟩⟩)
 dsimp only [Zbpi];exact ifF (decide_eq_false (by omega)) (of_eq h (Zkx hP h1))
theorem Zczg (a b:Za) (K:Bool->Prop) (hc:a.comms.length <= 9223372036854775807) (ho:a.others.length <= 9223372036854775807) (h1:a.comms.length=b.comms.length) (h2:a.others.length=b.others.length) (h:K (a.comms==b.comms&&a.others==b.others)):Zbd a b false K:=by
 obtain ⟨origin,path,nxt,hasMed,med,hasLocal,loc,atomic,hasMaker,makerAS,maker,comms,others⟩:=a;obtain ⟨origin',path',nxt',hasMed',med',hasLocal',loc',atomic',hasMaker',makerAS',maker',comms',others'⟩:=b;simp only [Za.comms,Za.others] at*;unfold Zbd;refine ifF rfl ?_;refine Zl.over comms (fun pre=>((pre.length:Int),())) (fun pre=>pre=comms'.take pre.length) rfl rfl (fun pre x post hp hn hP next hx=>?_) (fun hP next _=>?_)
 ·intro _;dsimp only [Zbqi];have hlt:pre.length<comms'.length:=by omega
  refine ifT (decide_eq_true (by omega)) ⟨by omega,AtN.of (Zbe hp) fun _=>⟨by omega,AtN.of (at_len hlt) fun _=>?_⟩⟩
  rw [ne32];refine IfB.intro (fun g=>of_eq h (by rw [mism hp (Yc hlt) (by simpa using g),Yka])) (fun g=>of_eq (hx ?_) ?_)
  exact Zkq hP (by rw [Yc hlt];congr 1;simpa using (by simpa using g:x=comms'[pre.length]).symm)
  ·rw [Zh (by omega) (by omega)];simp
 ·dsimp only [Zbqi];refine ifF (decide_eq_false (by omega)) ?_
  rw [Zkx hP h1,YT] at h;refine Zl.over others (fun pre=>((pre.length:Int),())) (fun pre=>pre=others'.take pre.length) rfl rfl (fun pre x post hp hn hP next hx=>?_) (fun hP next _=>?_)
  ·intro _;dsimp only [Prod.q,Zbmj];have hlt:pre.length<others'.length:=by omega
   have hty:others'[pre.length]? =some others'[pre.length]:=Yc hlt;have hat:=at_len hlt;generalize others'[pre.length]=y at hty hat;have hj: ∀j:Bool,(j=true->x≠y)->(j=false->x=y)->Zbei (origin,path,nxt,hasMed,med,hasLocal,loc,atomic,hasMaker,makerAS,maker,comms,others) (origin',path',nxt',hasMed',med',hasLocal',loc',atomic',hasMaker',makerAS',maker',comms',others') (pre.length:Int) next j K:=fun j k1 k2=>by
    unfold Zbei;refine IfB.intro (fun g=>of_eq h (mism hp hty (k1 g))) (fun g=>of_eq (hx ?_) ?_);exact Zkq hP (by rw [hty,k2 g])
    ·rw [Zh (by omega) (by omega)];simp
   refine ifT (decide_eq_true (by omega)) ⟨by omega,AtN.of (Zbe hp) fun _=>⟨by omega,AtN.of hat fun _=>?_⟩⟩
   refine IfB.intro (fun g=>hj true (fun _ e=>by rw [e] at g;simp at g) (fun g=>by cases g)) (fun g=>⟨by omega,AtN.of (Zbe hp) fun _=>⟨by omega,AtN.of hat fun _=>hj _ (fun g2 e=>by rw [e] at g2;simp at g2) (fun g2=>Prod.ext (by simpa using g) (by simpa using g2))⟩⟩)
  dsimp only [Prod.q,Zbmj];exact ifF (decide_eq_false (by omega)) (of_eq h (Zkx hP h2))
theorem stg {i w:Bool} {x y:UInt32} {J X:Prop} (h1:perh i w (x==y)=false->J) (h2:perh i w (x==y)=true->X):IfB (!(i==w)) J (IfB i (IfB ((x.toNat:Int) !=(y.toNat:Int)) J X) X):=by rw [ne32];cases i<;>cases w<;>cases hxy:(x==y)<;>simp_all [IfB,perh]
theorem stg2 {i w:Bool} {x y u v:UInt32} {J X:Prop} (h1:perh i w (x==y&&u==v)=false->J) (h2:perh i w (x==y&&u==v)=true->X):IfB (!(i==w)) J (IfB i (IfB ((x.toNat:Int) !=(y.toNat:Int)) J (IfB ((u.toNat:Int) !=(v.toNat:Int)) J X)) X):=by rw [ne32,ne32];cases i<;>cases w<;>cases hxy:(x==y)<;>cases huv:(u==v)<;>simp_all [IfB,perh]
theorem Zcyf (a b:Za) (K:Bool->Prop) (hl:a.path.length <= 9223372036854775807) (hs: ∀x∈a.path,x.2.length <= 9223372036854775807) (hc:a.comms.length <= 9223372036854775807) (ho:a.others.length <= 9223372036854775807) (h:K (Zej a b)):Zbgo a b K:=by
 have no:Zej a b=false->Zbd a b true K:=fun e=>by unfold Zbd;exact ifT rfl (of_eq h e)
 unfold Zbgo;rw [ne32];refine IfB.intro (fun g=>no (by simp at g;simp [Zej,g])) (fun g1 _=>Zcvu _ _ _ hl hs fun _=>?_)
 refine IfB.intro (fun g=>no (by simp at g;simp [Zej,g])) (fun g2=>?_)
 refine IfB.intro (fun g=>no (by simp at g;simp [Zej,g])) (fun g3=>?_)
 refine stg (fun g=>no (by simp [Zej,g])) (fun g4=>?_)
 refine stg (fun g=>no (by simp [Zej,g])) (fun g5=>?_)
 refine IfB.intro (fun g=>no (by simp at g;simp [Zej,g])) (fun g6=>?_)
 refine stg2 (fun g=>no (by simp [Zej,g])) (fun g7=>?_)
 have e1:(a.origin==b.origin)=true:=by simpa using g1
 have e2:(a.path==b.path)=true:=by simpa using g2
 have e3:(a.next==b.next)=true:=by simpa using g3
 have e6:(a.atomic==b.atomic)=true:=by simpa using g6
 refine IfB.intro (fun g=>no (by have:=Zmd g;simp [Zej,this])) (fun g8=>?_)
 have q1:=Zkz g8;have key: ∀j,((a.others.length:Int) !=(b.others.length:Int))=j->Zbd a b j K:=fun j g9=>by
  cases j with
  | true=>
   have:=Zmd g9;exact no (by simp [Zej,this])
  | false=>
   refine Zczg a b K hc ho q1 (Zkz g9) (of_eq h ?_);unfold Zej;rw [e1,e2,e3,e6,g4,g5,g7];simp only [YT]
 exact key _ rfl
theorem Zcqn (a n:Nat) (K:Int->Prop) (ha:a<4294967296) (hn:n <= 32) (hk:K ((a - a%Zek n:Nat):Int)):Zwj a n K:=by
 unfold Zwj;have e1:IntKind.wrap .i64 (32 - (n:Int))=((32 - n:Nat):Int):=by rw [Zh (by omega) (by omega)];omega
 rw [e1];refine ⟨by omega,?_⟩
 have hp:2^(32 - n) <= 2^32:=YW (by decide) (by omega)
 have h0:0<2^(32 - n):=YPa _;have e32:(2:Nat)^32=4294967296:=rfl;have e2:(min ((32 - n:Nat):Int).toNat (IntKind.bits .u64))=32 - n:=by rw [Int.toNat_natCast];have:IntKind.bits .u64=64:=rfl;rw [this];omega
 have e3:(1*(2^(32 - n)):Int)=((2^(32 - n):Nat):Int):=by rw [Int.one_mul];norm_cast
 rw [e2,e3,Zot _ (by omega),show (((2^(32 - n):Nat):Int) - 1)=((2^(32 - n) - 1:Nat):Int) by omega,Zot _ (by omega),wu32 (by omega),Zcbh a ha _ (by omega)]
 exact hk
def right (a:Nat) (n:Int):Bool:=decide (0 <= n)&&(decide (n <= 32)&&(a%Zek n.toNat==0))
theorem Zbso {a:Nat} {n:Int}:right a n=true↔0 <= n∧n <= 32∧a%Zek n.toNat=0:=by simp [right]
theorem Zbur (a:UInt32) (n:Int) (K:Bool->Prop) (hk:K (right a.toNat n)):Ztf (a,n) K:=by
 unfold Ztf;have ha:=Zbrc a;refine IfB.intro (fun h=>IfB.intro (fun h2=>?_) (fun h2=>of_eq hk ?_)) (fun h=>of_eq hk ?_)
 ·have h0:0 <= n:=by simpa using h
  have h1:n <= 32:=by simpa using h2
  obtain ⟨m,rfl⟩:=Int.eq_ofNat_of_zero_le h0;intro _;refine Zcqn a.toNat m _ ha (by omega) fun _=>of_eq hk ?_
  have hle:a.toNat%Zek m <= a.toNat:=Nat.mod_le _ _;unfold right;rw [decide_eq_true h0,decide_eq_true h1,YT,YT,Int.toNat_natCast];by_cases e:a.toNat%Zek m=0;rw [e];simp
  ·have e1:(a.toNat%Zek m==0)=false:=beq_eq_false_iff_ne.2 e;have e2:(((a.toNat - a.toNat%Zek m:Nat):Int)==(a.toNat:Int))=false:=beq_eq_false_iff_ne.2 (by omega)
   rw [e1,e2]
 ·unfold right;simp at h2;rw [decide_eq_false (show ¬n <= 32 by omega)];simp
 ·unfold right;simp at h;rw [decide_eq_false (show ¬0 <= n by omega)];simp
theorem Zcsv (n:Int) (K:Int->Prop) (hn:n <= 32) (hk:K (Zek n.toNat:Nat)):Zbhr n K:=by
 unfold Zbhr;refine Zl.up (32 - n.toNat) (fun i=>(((2^i:Nat):Int),((n.toNat+i:Nat):Int),())) (fun _=>True) (by simp) trivial (fun i hi _ next hx=>?_) (fun _ next=>?_)
 ·intro _;dsimp only [Zbnm];have hp:2^(i+1) <= 2^32:=YW (by decide) (by omega)
  have e32:(2:Nat)^32=4294967296:=rfl;refine ifT (decide_eq_true (by omega)) (of_eq (hx trivial) ?_)
  rw [show (2*((2^i:Nat):Int))=((2^(i+1):Nat):Int) by rw [Nat.pow_succ];omega,Zot _ (by omega),show (((n.toNat+i:Nat):Int)+1)=((n.toNat+(i+1):Nat):Int) by omega,Zjp _ (by omega)]
 intro _;dsimp only [Zbnm];exact ifF (decide_eq_false (by omega)) hk
theorem Zdht (a:UInt32) (n:Int) (K:Bool->Prop) (hk:K (right a.toNat n)):Zxv (a,n) K:=by
 unfold Zxv;have ha:=Zbrc a;refine IfB.intro (fun h=>IfB.intro (fun h2=>?_) (fun h2=>of_eq hk ?_)) (fun h=>of_eq hk ?_)
 ·have h0:0 <= n:=by simpa using h
  have h1:n <= 32:=by simpa using h2
  intro _;refine Zcsv n _ h1 fun _=>?_;have hp:0<Zek n.toNat:=YPa _;refine ⟨by omega,of_eq hk ?_⟩
  unfold right;rw [decide_eq_true h0,decide_eq_true h1,YT,YT];show _=((Int.tmod (IntKind.wrap .u64 (a.toNat:Int)) ((Zek n.toNat:Nat):Int))==0);rw [Zot _ (by omega),show Int.tmod (a.toNat:Int) ((Zek n.toNat:Nat):Int)=((a.toNat%Zek n.toNat:Nat):Int) from rfl]
  by_cases e:a.toNat%Zek n.toNat=0;rw [e];rfl
  ·have e1:(a.toNat%Zek n.toNat==0)=false:=beq_eq_false_iff_ne.2 e;have e2:(((a.toNat%Zek n.toNat:Nat):Int)==0)=false:=beq_eq_false_iff_ne.2 (by omega)
   rw [e1,e2]
 ·unfold right;simp at h2;rw [decide_eq_false (show ¬n <= 32 by omega)];simp
 ·unfold right;simp at h;rw [decide_eq_false (show ¬0 <= n by omega)];simp
abbrev Pf:=UInt32×Int
def Zp (p:Pf):Bool:=right p.1.toNat p.2
def octs (n:Int):Nat:=(n.toNat+7)/8
def Zdl (p:Pf):List UInt8:=ofI .u8 (IntKind.wrap .u8 p.2)::(be4 p.1.toNat).take (octs p.2)
def Zo (l:List Pf):List UInt8:=l.flatMap Zdl
theorem Zsc {p:Pf} (h:Zp p=true):0 <= p.2∧p.2 <= 32:=by have:=Zbso.1 h;exact ⟨this.1,this.2.1⟩
theorem Zmz {p:Pf} (h:Zp p=true):octs p.2 <= 4:=by have:=Zsc h;unfold octs;omega
theorem Zbzo {p:Pf} (h:Zp p=true):(Zdl p).length=1+octs p.2:=by have:=Zmz h;unfold Zdl;rw [List.length_cons,Yo,Zdz];omega
theorem Zcje (p:Pf):(Zdl p).length <= 5:=by unfold Zdl;rw [List.length_cons,Yo,Zdz];omega
theorem Zlx: ∀l:List Pf,(Zo l).length <= 5*l.length
 | []=>by simp [Zo]
 | p::l=>by have h1:=Zlx l;have h2:=Zcje p;have e:Zo (p::l)=Zdl p++Zo l:=rfl;rw [e,Yb,List.length_cons];omega
theorem Zbdx (l:List Pf) (p:Pf):Zo (l++[p])=Zo l++Zdl p:=by simp [Zo]
theorem Zdid (p:Pf) (K:Int->Prop) (hp:Zp p=true) (h:K (octs p.2:Nat)):Zzc p.2 K:=by
 have:=Zsc hp;unfold Zzc;refine ⟨by decide,of_eq h ?_⟩
 rw [Zh (n:=p.2+8) (by omega) (by omega),Zh (n:=p.2+8 - 1) (by omega) (by omega),Yga (by omega),Zh (by omega) (by omega)]
 unfold octs;omega
theorem Zbvf (a i:Nat) (hi:i<4) (x:UInt8) (h:(be4 a)[i]? =some x):(be4 a).take (i+1)=(be4 a).take i++[x]:=by rw [YFa,h];rfl
theorem Zbtz (a i:Nat) (hi:i<4):(be4 a)[i]? =some (UInt8.ofNat (a/2^(24 - 8*i))):=by
 match i,hi with
 | 0,_=>rfl
 | 1,_=>rfl
 | 2,_=>rfl
 | 3,_=>simp [be4]
theorem Zdlf (a k:Nat):Int.fdiv (a:Int) (2^k)=((a/2^k:Nat):Int):=by
 rw [Yqa _ (Int.le_of_lt (Int.pow_pos (by decide)))]
 norm_cast
theorem Zbxa (l:List Pf) (K:List UInt8->Bool->Prop) (hl:l.length <= 1000000000) (h:K (if l.all Zp then Zo l else []) (l.all Zp)):Zvl l K:=by
 unfold Zvl;refine Zl.over l (fun pre=>(Zo pre,(pre.length:Int),())) (fun pre=>pre.all Zp=true) rfl rfl (fun pre p post hp hn hP next hx=>?_) (fun hP next _=>?_)
 ·intro _;dsimp only [Zbmg];have hb:=Zlx pre;refine ifT (decide_eq_true (by omega)) ⟨by omega,AtN.of (Zbe hp) fun _=>?_⟩
  rw [Zdc];refine fun _=>Zbur p.1 p.2 _ fun _=>IfB.intro (fun h1=>?_) (fun h1=>?_)
  ·have h1':Zp p=false:=by simpa [Zp] using h1
   have e:l.all Zp=false:=by rw [hp];simp [h1']
   rw [e] at h;exact h
  ·have h1':Zp p=true:=by simpa [Zp] using h1
   have ho:=Zmz h1';refine ⟨by simp;omega,fun _=>Zdid p _ h1' fun _=>?_⟩
   refine Zl.up (octs p.2) (fun i=>(Zo pre++ofI .u8 (IntKind.wrap .u8 p.2)::(be4 p.1.toNat).take i,(i:Int),())) (fun _=>True) (by simp) trivial (fun i hi _ next' hy=>?_) (fun _ next'=>?_)
   ·intro _;dsimp only [Zbic];have hw:IntKind.wrap .i64 (24 - IntKind.wrap .i64 (8*(i:Int)))=((24 - 8*i:Nat):Int):=by
     rw [Zh (n:=8*(i:Int)) (by omega) (by omega),Zh (by omega) (by omega)];omega
    have hm:(min ((24 - 8*i:Nat):Int).toNat (IntKind.bits .u32))=24 - 8*i:=by have:IntKind.bits .u32=32:=rfl;rw [Int.toNat_natCast,this];omega
    have ht:((be4 p.1.toNat).take i).length <= 4:=by rw [Yo,Zdz];omega
    rw [hw,hm];refine ifT (decide_eq_true (by omega)) ⟨by omega,by simp;omega,of_eq (hy trivial) ?_⟩
    rw [Zdlf,of8w,Zh (by omega) (by omega),Zbvf _ i (by omega) _ (Zbtz _ i (by omega))]
    simp
   ·intro _;dsimp only [Zbic];refine ifF (decide_eq_false (by omega)) (of_eq (hx ?_) ?_)
    simp [hP,h1']
    ·rw [Zbdx,Zh (by omega) (by omega)]
     simp [Zdl]
 ·dsimp only [Zbmg];refine ifF (decide_eq_false (by omega)) ?_
  rw [hP,if_pos rfl] at h;exact h
def shA (a:Nat):Nat->Nat
 | 0=>a
 | i+1=>(shA a i%16777216)*256
theorem Zcyp (a:Nat) (h:a<4294967296): ∀i,shA a i<4294967296
 | 0=>h
 | i+1=>by simp only [shA];omega
theorem Zcsk (a i:Nat) (hi:i<4):UInt8.ofNat (shA a i/16777216)=UInt8.ofNat (a/2^(24 - 8*i)):=by
 apply YSa.1;simp only [YP]
 match i,hi with
 | 0,_=>rfl
 | 1,_=>simp only [shA];omega
 | 2,_=>simp only [shA];omega
 | 3,_=>simp only [shA];omega
theorem Zcqr (a:Nat):Int.tdiv (a:Int) 16777216=((a/16777216:Nat):Int):=rfl
theorem Zcoq (a:Nat):Int.tmod (a:Int) 16777216=((a%16777216:Nat):Int):=rfl
theorem Zbtd (b:List UInt8) (l:List Pf) (K:List UInt8->Bool->Prop) (hb0:b.length <= 1000000000) (hl:l.length <= 1000000000) (h:K (if l.all Zp then b++Zo l else []) (l.all Zp)):Zpy b l K:=by
 unfold Zpy;refine Zl.over l (fun pre=>(b++Zo pre,(pre.length:Int),())) (fun pre=>pre.all Zp=true) (by simp [Zo]) rfl (fun pre p post hp hn hP next hx=>?_) (fun hP next _=>?_)
 ·intro _;dsimp only [Zbkg];have hb:=Zlx pre;refine ifT (decide_eq_true (by omega)) ⟨by omega,AtN.of (Zbe hp) fun _=>?_⟩
  rw [Zdc];refine fun _=>Zdht p.1 p.2 _ fun _=>IfB.intro (fun h1=>?_) (fun h1=>?_)
  ·have h1':Zp p=false:=by simpa [Zp] using h1
   have e:l.all Zp=false:=by rw [hp];simp [h1']
   rw [e] at h;exact h
  ·have h1':Zp p=true:=by simpa [Zp] using h1
   have ho:=Zmz h1';have hr:=Zsc h1';refine ⟨by omega,AtN.of (Zbe hp) fun _=>⟨by simp;omega,by omega,AtN.of (Zbe hp) fun _=>?_⟩⟩
   have ha:=Zbrc p.1;refine Zl.up (octs p.2) (fun i=>(b++Zo pre++ofI .u8 (IntKind.wrap .u8 p.2)::(be4 p.1.toNat).take i,(shA p.1.toNat i:Nat),(i:Int),())) (fun _=>True) (by simp [shA]) trivial (fun i hi _ next' hy=>?_) (fun _ next'=>?_)
   ·intro _;dsimp only [Zbng];have hs:=Zcyp p.1.toNat ha i;have ht:((be4 p.1.toNat).take i).length <= 4:=by rw [Yo,Zdz];omega
    have hk:IntKind.wrap .i64 (Int.tdiv (IntKind.wrap .i64 (p.2+7)) 8)=(octs p.2:Nat):=by
     rw [Zh (n:=p.2+7) (by omega) (by omega),Yga (by omega),Zh (by omega) (by omega)]
     unfold octs;omega
    refine ⟨by omega,AtN.of (Zbe hp) fun _=>⟨by decide,?_⟩⟩
    rw [hk];refine ifT (decide_eq_true (by omega)) ⟨by decide,by simp;omega,by decide,of_eq (hy trivial) ?_⟩
    have e1:IntKind.wrap .u32 (((shA p.1.toNat i/16777216:Nat):Int))=((shA p.1.toNat i/16777216:Nat):Int):=wu32 (by omega)
    have e2:IntKind.wrap .u32 ((((shA p.1.toNat i%16777216:Nat):Int))*256)=((shA p.1.toNat (i+1):Nat):Int):=by
     rw [show (((shA p.1.toNat i%16777216:Nat):Int))*256=((shA p.1.toNat i%16777216*256:Nat):Int) by omega,wu32 (by omega)];rfl
    rw [Zcqr,Zcoq,e1,e2,of8w,Zh (by omega) (by omega),Zcsk _ i (by omega),Zbvf _ i (by omega) _ (Zbtz _ i (by omega))]
    simp
   ·intro _;dsimp only [Zbng];have hk:IntKind.wrap .i64 (Int.tdiv (IntKind.wrap .i64 (p.2+7)) 8)=(octs p.2:Nat):=by
     rw [Zh (n:=p.2+7) (by omega) (by omega),Yga (by omega),Zh (by omega) (by omega)]
     unfold octs;omega
    refine ⟨by omega,AtN.of (Zbe hp) fun _=>⟨by decide,?_⟩⟩
    rw [hk];refine ifF (decide_eq_false (by omega)) (of_eq (hx ?_) ?_)
    simp [hP,h1']
    ·rw [Zbdx,Zh (by omega) (by omega)]
     simp [Zdl]
 ·dsimp only [Zbkg];refine ifF (decide_eq_false (by omega)) ?_
  rw [hP,if_pos rfl] at h;exact h
abbrev Upd:=List Pf×List Pf×Int×List Seg×UInt32×Bool×UInt32×Bool×UInt32×Bool×Bool×UInt32×UInt32×List UInt32×List Raw×Int
def Zdd (u:Upd):Za:=(u.2.2.1,u.2.2.2.1,u.2.2.2.2.1,u.2.2.2.2.2.1,u.2.2.2.2.2.2.1,u.2.2.2.2.2.2.2.1,u.2.2.2.2.2.2.2.2.1,u.2.2.2.2.2.2.2.2.2.1,u.2.2.2.2.2.2.2.2.2.2.1,u.2.2.2.2.2.2.2.2.2.2.2.1,u.2.2.2.2.2.2.2.2.2.2.2.2.1,u.2.2.2.2.2.2.2.2.2.2.2.2.2.1,u.2.2.2.2.2.2.2.2.2.2.2.2.2.2.1)
structure FitA (a:Za):Prop where
 p1:a.path.length <= 9223372036854775807
 p2:cnt a.path <= 9223372036854775807
 p3: ∀s∈a.path,s.2.length <= 9223372036854775807
 o1:a.others.length <= 9223372036854775807
def Zep (w a t:List UInt8):List UInt8×Int:=
 if 4073<w.length+a.length+t.length then ([],3) else (be2 w.length++w++(be2 a.length++a++t),0)
def updR (u:Upd) (four:Bool):List UInt8×Int:=
 if u.1.all Zp&&u.2.1.all Zp then
  if 0<u.2.1.length then (if Zdh (Zdd u) then Zep (Zo u.1) (Zck four (Zdd u)) (Zo u.2.1) else ([],2))
  else Zep (Zo u.1) [] (Zo u.2.1)
 else ([],2)
def msgB (b:List UInt8):List UInt8:=if 4 <= b.length∧b.length <= 4077 then List.replicate 16 255++(be2 (19+b.length)++(2::b)) else []
def msgU (u:Upd) (four:Bool):List UInt8:=msgB (updR u four).1
theorem Zbzj {four:Bool} {p:List Seg} (hok:Zbh p=true):(Zbo four p).length <= 384:=by simp only [Zbh,Ya,decide_eq_true_eq] at hok;have h1:=Zbhs p hok.1;have h2:=Zbhu four p;omega
theorem Zbit {four:Bool} {a:Za} (h:Zdh a=true):(Zck four a).length <= 3500:=by simp only [Zdh,Ya,decide_eq_true_eq,YF] at h;obtain ⟨⟨⟨⟨⟨⟨_,_⟩,hpok⟩,_⟩,_⟩,hcm⟩,hoth,hol⟩:=h;have hp1:=Zbzj (four:=four) hpok;have hp2:=Zbzj (four:=true) hpok;have ho:=Zbiv a.others (-1) hoth;have hp:=Zcko four a;have a1:=Zeo 64 1 [ofI .u8 (IntKind.wrap .u8 a.origin)];have a2:=Zeo 64 2 (Zbo four a.path);have a3:=Zeo 64 3 (be4 a.next.toNat);have a4:=Zeo 192 17 (Zbo true a.path);have a5:=Zeo 192 18 (be4 a.makerAS.toNat++be4 a.maker.toNat);unfold Zck Zit oldB;simp only [Yb,Zdz,List.length_cons,List.length_nil] at*;split<;>split<;>(try simp only [List.length_nil])<;>omega
theorem Zcbs {x:Bool} (h:true= !x):x=false:=by cases x<;>simp_all
theorem Zclo {x:Bool} (h:false= !x):x=true:=by cases x<;>simp_all
theorem Zclu (n:Nat):([ofI .u8 (IntKind.wrap .u8 (Int.fdiv (n:Int) 256)),ofI .u8 (IntKind.wrap .u8 (n:Int))]:List UInt8)=be2 n:=by rw [Zul,of8w,of8w];rfl
theorem Zcfv (b:List UInt8) (K:List UInt8->Prop) (hl:b.length <= 100000000) (h:K (be2 b.length++b)):Zql b K:=by unfold Zql;rw [Zclu];exact ⟨by decide,fun _=>Zus _ _ (by simp) (by simp [Zoc];omega) fun _=>of_eq h (by simp)⟩
theorem Zbum (w t a:List UInt8) (K:List UInt8->Int->Prop) (hw:w.length <= 10000000000) (ht:t.length <= 10000000000) (ha:a.length <= 10000000000) (h:K (Zep w a t).1 (Zep w a t).2):Zbfx w t a K:=by
 unfold Zbfx;rw [Zh (n:=(w.length:Int)+a.length) (by omega) (by omega),Zh (n:=(w.length:Int)+a.length+t.length) (by omega) (by omega),Zh (by omega) (by omega)]
 unfold Zep at h;refine IfB.intro (fun h1=>?_) (fun h1=>?_)
 ·have h1:4073<w.length+a.length+t.length:=by have:=of_decide_eq_true h1;omega
  rw [if_pos h1] at h;exact h
 ·have h1: ¬4073<w.length+a.length+t.length:=by have:=of_decide_eq_false h1;omega
  rw [if_neg h1] at h;refine fun _=>Zcfv w _ (by omega) fun _ _=>Zcfv a _ (by omega) fun _ _=>Zus _ _ (by simp) (by simp [Zoc];omega) fun _=>Zga h ?_
  simp
theorem Zdmx (u:Upd) (four:Bool) (K:List UInt8->Int->Prop) (h1:u.1.length <= 1000000000) (h2:u.2.1.length <= 1000000000) (hf:FitA (Zdd u)) (h:K (updR u four).1 (updR u four).2):Zbgs u four K:=by
 unfold Zbgs;have b1:=Zlx u.1;have b2:=Zlx u.2.1;have key: ∀j,(j= !(u.1.all Zp&&u.2.1.all Zp))->Zbbo four u (if u.1.all Zp then Zo u.1 else []) (if u.2.1.all Zp then Zo u.2.1 else []) j K:=fun j hj=>by
  unfold Zbbo;simp only [Zdc];unfold updR at h;refine IfB.intro (fun h3=>?_) (fun h3=>?_);have:(u.1.all Zp&&u.2.1.all Zp)=false:=Zcbs (h3▸hj);rw [this] at h;exact h
  ·have e:(u.1.all Zp&&u.2.1.all Zp)=true:=Zclo (h3▸hj);rw [e,if_pos rfl] at h;obtain ⟨e1,e2⟩:=Ybb.1 e;rw [e1,e2,if_pos rfl,if_pos rfl];refine IfB.intro (fun h4 _=>?_) (fun h4=>?_)
   ·have h4:0<u.2.1.length:=by have:=of_decide_eq_true h4;omega
    rw [if_pos h4] at h;refine Zckr (Zdd u) four _ hf.p1 hf.p2 hf.p3 hf.o1 fun _=>?_;rw [Zble];refine IfB.intro (fun h5=>?_) (fun h5=>?_)
    ·have h5:Zdh (Zdd u)=false:=by simpa using h5
     rw [h5] at h ⊢;exact h
    ·have h5:Zdh (Zdd u)=true:=by simpa using h5
     rw [h5,if_pos rfl] at h ⊢;have hal:=Zbit (four:=four) h5;exact Zbum _ _ _ K (by omega) (by omega) (by omega) h
   ·have h4: ¬0<u.2.1.length:=by have:=of_decide_eq_false h4;omega
    rw [if_neg h4] at h;exact Zbum _ _ _ K (by omega) (by omega) (by simp) h
 refine fun _=>Zbxa _ _ h1 fun _ _=>Zbxa _ _ h2 fun _=>?_;refine IfB.intro (fun h3=>key true ?_) (fun h3=>key _ ?_)
 ·have:u.1.all Zp=false:=by simpa using h3
  rw [this];rfl
 ·have:u.1.all Zp=true:=by simpa using h3
  rw [this];rfl
theorem Zbxh (n:Nat) (K:List UInt8->Prop) (hn:n <= 1000000000000) (h:K (be2 n)):Zrm (n:Int) K:=by
 unfold Zrm;rw [Zcgs,Zh (by omega) (by omega),Zbme,Zbme,of8w,of8w,Zbah,Zbah]
 exact ⟨by decide,by decide,by decide,h⟩
theorem Zdod (w t a:List UInt8) (K:List UInt8->Int->Prop) (hw:w.length <= 10000000000) (ht:t.length <= 10000000000) (ha:a.length <= 10000000000) (h:K (Zep w a t).1 (Zep w a t).2):Zzm w t a K:=by
 unfold Zzm;rw [Zh (n:=(w.length:Int)+a.length) (by omega) (by omega),Zh (n:=(w.length:Int)+a.length+t.length) (by omega) (by omega)]
 unfold Zep at h;refine IfB.intro (fun h1=>?_) (fun h1=>?_)
 ·have h1:4073<w.length+a.length+t.length:=by have:=of_decide_eq_true h1;omega
  rw [if_pos h1] at h;exact h
 ·have h1: ¬4073<w.length+a.length+t.length:=by have:=of_decide_eq_false h1;omega
  rw [if_neg h1] at h;refine fun _=>Zbxh _ _ (by omega) fun _=>⟨by rw [Zoc];omega,fun _=>Zbxh _ _ (by omega) fun _=>⟨?_,?_,?_,Zga h (by simp)⟩⟩
  all_goals simp only [Yb,Zoc];omega
theorem Zdgt (u:Upd) (four:Bool) (K:List UInt8->Int->Prop) (h1:u.1.length <= 1000000000) (h2:u.2.1.length <= 1000000000) (h0:u.2.1.length=0) (hf:FitA (Zdd u)) (h:K (updR u four).1 (updR u four).2):Zxw u four K:=by
 unfold Zxw;have b1:=Zlx u.1;have b2:=Zlx u.2.1;have key: ∀j,(j= !(u.1.all Zp&&u.2.1.all Zp))->Zbfk four u (if u.1.all Zp then []++Zo u.1 else []) (if u.2.1.all Zp then []++Zo u.2.1 else []) j K:=fun j hj=>by
  unfold Zbfk;simp only [Zdc];unfold updR at h;refine IfB.intro (fun h3=>?_) (fun h3=>?_);have:(u.1.all Zp&&u.2.1.all Zp)=false:=Zcbs (h3▸hj);rw [this] at h;exact h
  ·have e:(u.1.all Zp&&u.2.1.all Zp)=true:=Zclo (h3▸hj);rw [e,if_pos rfl] at h;obtain ⟨e1,e2⟩:=Ybb.1 e;rw [e1,e2,if_pos rfl,if_pos rfl,List.nil_append,List.nil_append];refine IfB.intro (fun h4 _=>?_) (fun h4=>?_);exact absurd (of_decide_eq_true h4) (by omega)
   ·have h4: ¬0<u.2.1.length:=by have:=of_decide_eq_false h4;omega
    rw [if_neg h4] at h;exact Zdod _ _ _ K (by omega) (by omega) (by simp) h
 refine fun _=>Zbtd [] _ _ (by simp) h1 fun _ _=>Zbtd [] _ _ (by simp) h2 fun _=>?_
 refine IfB.intro (fun h3=>key true ?_) (fun h3=>key _ ?_)
 ·have:u.1.all Zp=false:=by simpa using h3
  rw [this];rfl
 ·have:u.1.all Zp=true:=by simpa using h3
  rw [this];rfl
theorem Zdat (n:Nat) (hn:n <= 1000000):([ofI .u8 (IntKind.wrap .u8 (Int.fdiv (IntKind.wrap .i64 (19+(n:Int))) 256)),ofI .u8 (IntKind.wrap .u8 (IntKind.wrap .i64 (19+(n:Int))))]:List UInt8)=be2 (19+n):=by
 rw [Zh (by omega) (by omega),show (19+(n:Int))=((19+n:Nat):Int) by omega]
 exact Zclu _
theorem Zcnu (b:List UInt8) (K:List UInt8->Int->Prop) (h: ∀e,K (msgB b) e) (hl:b.length <= 10000000000):Zbdf 2 b K:=by
 unfold Zbdf;have key: ∀j:Bool,(j=true->¬(4 <= b.length∧b.length <= 4077))->(j=false->4 <= b.length∧b.length <= 4077)->Zwr 2 b j K:=fun j k1 k2=>by
  unfold Zwr;refine IfB.intro (fun h1=>?_) (fun h1=>?_);have:=h 2;unfold msgB at this;rw [if_neg (k1 h1)] at this;exact this
  ·obtain ⟨q1,q2⟩:=k2 h1;refine fun _=>?_;unfold Zpn;refine fun _=>⟨by decide,fun _=>Zus _ _ (by simp) (by simp;omega) fun _=>Zga (h 0) ?_⟩
   unfold msgB;rw [if_pos ⟨q1,q2⟩,← Zdat _ (by omega)]
   simp only [List.flatten_cons,List.flatten_nil,Yv];rfl
 refine IfB.intro (fun h1=>key true (fun _ h2=>?_) (fun h2=>by cases h2)) (fun h1 _=>?_)
 have:=of_decide_eq_true h1;omega
 ·have h1:=of_decide_eq_false h1;unfold Zmr;refine fun _=>?_;unfold Zpb;refine ifF rfl (ifT rfl fun _=>ifT rfl ?_);rw [Zh (by omega) (by omega)]
  refine IfB.intro (fun h2 _=>key _ (fun h3=>?_) (fun h3=>?_)) (fun h2 _=>key _ (fun h3=>?_) (fun h3=>by cases h3))
  ·have h2:=of_decide_eq_true h2;have h3:decide (19+(b.length:Int) <= 4096)=false:=by simpa using h3
   have:=of_decide_eq_false h3;omega
  ·have h2:=of_decide_eq_true h2;have h3:decide (19+(b.length:Int) <= 4096)=true:=by simpa using h3
   have:=of_decide_eq_true h3;omega
  have h2:=of_decide_eq_false h2;omega
theorem Zcxn (b:List UInt8) (K:List UInt8->Int->Prop) (h: ∀e,K (msgB b) e) (hl:b.length <= 10000000000):Zbdz 2 b K:=by
 unfold Zbdz;have key: ∀j:Bool,(j=true->¬(4 <= b.length∧b.length <= 4077))->(j=false->4 <= b.length∧b.length <= 4077)->Zqe 2 b j K:=fun j k1 k2=>by
  unfold Zqe;refine IfB.intro (fun h1=>?_) (fun h1=>?_);have:=h 2;unfold msgB at this;rw [if_neg (k1 h1)] at this;exact this
  ·obtain ⟨q1,q2⟩:=k2 h1;refine Zl.up 16 (fun i=>(List.replicate i 255,(i:Int),())) (fun _=>True) rfl trivial (fun i hi _ next hx=>?_) (fun _ next=>?_)
   ·intro _;dsimp only [Zbio];refine ifT (decide_eq_true (by omega)) ⟨by simp;omega,of_eq (hx trivial) ?_⟩
    rw [Zh (by omega) (by omega),List.replicate_succ'];rfl
   ·intro _;dsimp only [Zbio];refine ifF (decide_eq_false (by omega)) ⟨by decide,by decide,by simp,by simp;omega,Zga (h 0) ?_⟩
    unfold msgB;rw [if_pos ⟨q1,q2⟩,Zh (n:=19+(b.length:Int)) (by omega) (by omega),show (19+(b.length:Int))=((19+b.length:Nat):Int) by omega,Zcgs,Zh (by omega) (by omega),Zbme,of8w,of8w,Zbah,Yu]
    rfl
 refine IfB.intro (fun h1=>key true (fun _ h2=>?_) (fun h2=>by cases h2)) (fun h1 _=>?_)
 have:=of_decide_eq_true h1;omega
 ·have h1:=of_decide_eq_false h1;unfold Zbiu;rw [Zh (by omega) (by omega)]
  have k2: ∀j:Bool,(j=decide (19+(b.length:Int)>4096))->Zzx 2 (19+(b.length:Int)) j fun x17=>WfPs Ztw (x17,())->Zqe 2 b (!x17) K:=fun j hj=>by
   unfold Zzx;refine IfB.intro (fun h2 _=>key _ (fun h3=>?_) (fun h3=>by cases h3)) (fun h2=>ifF rfl (ifT rfl fun _=>key _ (fun h3=>?_) (fun h3=>?_)))
   rw [h2] at hj;have:=of_decide_eq_true hj.symm;omega
   ·have h3:decide (19+(b.length:Int)≥23)=false:=by simpa using h3
    have:=of_decide_eq_false h3;omega
   ·have h3:decide (19+(b.length:Int)≥23)=true:=by simpa using h3
    have:=of_decide_eq_true h3;rw [h2] at hj;have:=of_decide_eq_false hj.symm;omega
  refine ifF (decide_eq_false (by omega)) (k2 _ rfl)
theorem Zcbe (w a t:List UInt8):(Zep w a t).1.length <= 4077:=by unfold Zep;split;simp;simp only [Yb,Zoc];omega
theorem Zbnr (u:Upd) (four:Bool):(updR u four).1.length <= 4077:=by unfold updR;split;split;split;exact Zcbe _ _ _;simp;exact Zcbe _ _ _;simp
theorem Zbpg (u:Upd) (four:Bool) (K:List UInt8->Prop) (h1:u.1.length <= 1000000000) (h2:u.2.1.length <= 1000000000) (hf:FitA (Zdd u)) (h:K (msgU u four)):Znb u four K:=by unfold Znb;simp only [Zdc];have:=Zbnr u four;exact fun _=>Zdmx u four _ h1 h2 hf fun _ _=>Zcnu _ _ (fun e _=>h) (by omega)
theorem Zcvo (u:Upd) (four:Bool) (K:List UInt8->Prop) (h1:u.1.length <= 1000000000) (h2:u.2.1.length <= 1000000000) (h0:u.2.1.length=0) (hf:FitA (Zdd u)) (h:K (msgU u four)):Zbas u four K:=by unfold Zbas;simp only [Zdc];have:=Zbnr u four;exact fun _=>Zdgt u four _ h1 h2 h0 hf fun _ _=>Zcxn _ _ (fun e _=>h) (by omega)
theorem Zcux {i w:Bool} {x y:UInt32}:perh i w (x==y)=true↔i=w∧(if i then x else 0)=(if w then y else 0):=by cases i<;>cases w<;>simp [perh]
theorem Zdkr {i w:Bool} {x y u v:UInt32}:perh i w (x==y&&u==v)=true↔i=w∧(if i then x else 0)=(if w then y else 0)∧(if i then u else 0)=(if w then v else 0):=by cases i<;>cases w<;>simp [perh]
def keyA (a:Za):Za:=(a.origin,a.path,a.next,a.hasMed,(if a.hasMed then a.med else 0),a.hasLocal,(if a.hasLocal then a.loc else 0),a.atomic,a.hasMaker,(if a.hasMaker then a.makerAS else 0),(if a.hasMaker then a.maker else 0),a.comms,a.others)
theorem Zbmk {a b:Za}:Zej a b=true↔keyA a=keyA b:=by unfold Zej keyA;simp only [Ya,Zcux,Zdkr,beq_iff_eq,Prod.mk.injEq];constructor;rintro ⟨h1,h2,h3,⟨h4,h5⟩,⟨h6,h7⟩,⟨h8,h9,h10⟩,h11,h12,h13⟩;exact ⟨h1,h11,h2,h4,h5,h6,h7,h3,h8,h9,h10,h12,h13⟩;rintro ⟨h1,h11,h2,h4,h5,h6,h7,h3,h8,h9,h10,h12,h13⟩;exact ⟨h1,h2,h3,⟨h4,h5⟩,⟨h6,h7⟩,⟨h8,h9,h10⟩,h11,h12,h13⟩
theorem Zbqh {c d:Ch}:Zch c d=true↔keyA (Zs c)=keyA (Zs d):=Zbmk
theorem Zbsl {a b:Bool} (h:a=true↔b=true):a=b:=by cases a<;>cases b<;>simp_all
theorem Zcme {c d:Ch} (h:Zch c d=true) (e:Ch):Zch e c=Zch e d:=Zbsl (by rw [Zbqh,Zbqh,Zbqh.1 h])
theorem Zcks {g:List Ch} {c d:Ch} (h:Zch c d=true):lkH g c=lkH g d:=by
 cases g with
 | nil=>rfl
 | cons x r=>exact Zcme h x
def grpF:List Ch->List (List Ch)
 | []=>[]
 | x::r=>(x::r.filter fun y=>Zch x y)::grpF (r.filter fun y=>!Zch x y)
 termination_by l=>l.length
 decreasing_by
  simp only [List.length_cons];refine Nat.lt_succ_of_le ?_;rw [List.length_unattach];exact Yoa (YZ _ _) (by rw [List.length_attach];exact Yh _)
theorem Zvc:grpF []= []:=by rw [grpF]
theorem Zpj (x:Ch) (r:List Ch):grpF (x::r)=(x::r.filter fun y=>Zch x y)::grpF (r.filter fun y=>!Zch x y):=by rw [grpF]
def Apart (out:List (List Ch)):Prop:=out.Pairwise fun g h=>∀x,lkH g x=true->lkH h x=false
theorem Zchv {x:Ch}: ∀{out:List (List Ch)},Apart out->(out.any fun g=>lkH g x)=true->gPut x out=out.map fun g=>if lkH g x then g++[x] else g
 | [],_,h=>by simp at h
 | g::r,hd,h=>by
  obtain ⟨h1,h2⟩:=YRa.1 hd;simp only [gPut,YG];cases hg:lkH g x with
  | true=>
   have:r.map (fun g=>if lkH g x=true then g++[x] else g)=r.map id:=YM fun g' hg'=>by rw [h1 g' hg' x hg];rfl
   simp only [if_true];rw [this,Yeb]
  | false=>
   simp only [List.any_cons,hg,Yba] at h;rw [Zchv h2 h];rfl
theorem Zcbm {x:Ch}: ∀{out:List (List Ch)},(out.any fun g=>lkH g x)=false->gPut x out=out++[[x]]
 | [],_=>rfl
 | g::r,h=>by simp only [List.any_cons,Bool.or_eq_false_iff] at h;simp only [gPut,h.1,List.cons_append];rw [Zcbm h.2]
theorem Zdcv {g:List Ch} (h:g≠[]) (x y:Ch):lkH (g++[x]) y=lkH g y:=by
 cases g with
 | nil=>exact absurd rfl h
 | cons=>rfl
theorem Zbik: ∀(l:List Ch) (out:List (List Ch)),(∀g∈out,g≠[])->Apart out->
  l.foldl (fun out x=>gPut x out) out=(out.map fun g=>g++l.filter fun y=>lkH g y)++grpF (l.filter fun y=>!(out.any fun g=>lkH g y))
 | [],out,_,_=>by simp [Zvc]
 | x::r,out,hne,hd=>by
  rw [List.foldl_cons];cases hx:(out.any fun g=>lkH g x) with
  | true=>
   rw [Zchv hd hx];have hh: ∀g∈out,∀y,lkH (if lkH g x then g++[x] else g) y=lkH g y:=fun g hg y=>by split;exact Zdcv (hne g hg) x y;rfl
   have A1: ∀g∈out.map (fun g=>if lkH g x then g++[x] else g),g≠[]:=fun g hg=>by obtain ⟨g',hg',rfl⟩:=YS.1 hg;split;simp;exact hne g' hg'
   have A2:Apart (out.map fun g=>if lkH g x then g++[x] else g):=by unfold Apart;rw [List.pairwise_map];refine List.Pairwise.imp_of_mem (fun {a b} ha hb hab y hy=>?_) hd;rw [hh a ha y] at hy;rw [hh b hb y];exact hab y hy
   rw [Zbik r _ A1 A2]
   ·congr 1
    ·rw [Ywa];refine YM fun g hg=>?_;show (if lkH g x=true then g++[x] else g)++r.filter (fun y=>lkH (if lkH g x=true then g++[x] else g) y)=_
     have:(fun y=>lkH (if lkH g x=true then g++[x] else g) y)=fun y=>lkH g y:=funext fun y=>hh g hg y
     rw [this,YAa];split;simp;rfl
    ·congr 1;rw [YAa,hx];simp only [Yha,Y8,if_false];refine Yhb fun y _=>?_;congr 1;rw [List.any_map];refine Zbsl ?_;simp only [YNa,Function.comp_apply];constructor;rintro ⟨g,hg,h⟩;exact ⟨g,hg,by rw [hh g hg y] at h;exact h⟩
     ·rintro ⟨g,hg,h⟩;exact ⟨g,hg,by rw [hh g hg y];exact h⟩
  | false=>
   rw [Zcbm hx];have hx': ∀g∈out,lkH g x=false:=fun g hg=>by
    cases h:lkH g x with
    | false=>rfl
    | true=>rw [YNa.2 ⟨g,hg,h⟩] at hx;cases hx
   have A1: ∀g∈out++[[x]],g≠[]:=fun g hg=>by rcases Yw.1 hg with h | h;exact hne g h;rw [YB] at h;subst h;simp
   have A2:Apart (out++[[x]]):=Yab.2 ⟨hd,List.pairwise_singleton _ _,fun a ha b hb y hy=>by
    rw [YB] at hb;subst hb;show Zch x y=false;cases h:Zch x y with
    | false=>rfl
    | true=>rw [← Zcks h,hx' a ha] at hy;cases hy⟩
   rw [Zbik r _ A1 A2]
   ·rw [Yxa,Yu,YAa,hx];simp only [YJa,if_true];rw [Zpj];congr 1;refine YM fun g hg=>?_;rw [YAa,hx' g hg];rfl
    ·show ([x]++r.filter (fun y=>Zch x y))::grpF _=_;congr 1
     ·show x::_=_;congr 1;rw [List.filter_filter];refine Yhb fun y _=>?_;cases hy:Zch x y with
      | false=>rfl
      | true=>
       have:(out.any fun g=>lkH g y)=false:=by rw [List.any_eq_false];intro g hg;rw [← Zcks hy,hx' g hg];simp
       rw [this];rfl
     congr 1;rw [List.filter_filter];refine Yhb fun y _=>?_;rw [YZa];show (!((out.any fun g=>lkH g y)||(Zch x y||false)))=_;rw [Bool.or_false,Bool.not_or,Bool.and_comm]
theorem Zcvk (l:List Ch):Zgp l=grpF l:=by
 unfold Zgp;rw [Zbik l [] (by simp) List.Pairwise.nil]
 have:(l.filter fun y=>!(([]:List (List Ch)).any fun g=>lkH g y))=l:=List.filter_eq_self.2 fun y _=>rfl;rw [this];rfl
theorem Zcgn: ∀(n:Nat) (l:List Ch),l.length <= n->∀g∈grpF l,g≠[]∧(∀c∈g,c∈l)∧g.length <= l.length
 | _,[],_,g,hg=>by rw [Zvc] at hg;simp at hg
 | 0,_::_,h,_,_=>by simp at h
 | n+1,x::r,h,g,hg=>by
  rw [Zpj] at hg;rcases Yj.1 hg with rfl | hg
  ·have:=YZ (fun y=>Zch x y) r;refine ⟨by simp,fun c hc=>?_,by simp only [List.length_cons];omega⟩
   rcases Yj.1 hc with rfl | hc;exact Yk;exact Yi _ ((YC.1 hc).1)
  ·have h2:=YZ (fun y=>!Zch x y) r;simp only [List.length_cons] at h;obtain ⟨q1,q2,q3⟩:=Zcgn n _ (by omega) g hg
   exact ⟨q1,fun c hc=>Yi _ ((YC.1 (q2 c hc)).1),by simp only [List.length_cons];omega⟩
theorem Zbsb: ∀(n:Nat) (l:List Ch),l.length <= n->(grpF l).length <= l.length
 | _,[],_=>by rw [Zvc];simp
 | 0,_::_,h=>by simp at h
 | n+1,x::r,h=>by
  rw [Zpj];have h2:=YZ (fun y=>!Zch x y) r;simp only [List.length_cons] at h ⊢;have:=Zbsb n (r.filter fun y=>!Zch x y) (by omega)
  omega
theorem Zcrb {p:Pf} (h:Zp p=true):Zhu p=((Zdl p).length:Int):=by
 have:=Zsc h;rw [Zbzo h];unfold Zhu octs;rw [Zh (n:=p.2+7) (by omega) (by omega),Yga (by omega),Zh (n:=(p.2+7)/8) (by omega) (by omega),Zh (by omega) (by omega)]
 omega
theorem Zcwc (p:Pf):1 <= (Zdl p).length:=by simp [Zdl]
def Zcg (most:Nat):List Pf->List Pf->List (List Pf)
 | [],now=>match now with
  | []=>[]
  | _::_=>[now]
 | p::r,now=>if most<(Zo now).length+(Zdl p).length then now::Zcg most r [p] else Zcg most r (now++[p])
theorem Zbmx {most:Nat} (hm:most <= 100000): ∀(l now:List Pf) (n:Int),(∀p∈l,Zp p=true)->n=((Zo now).length:Int)->(Zo now).length <= 200000->Zlb (most:Int) l now n=Zcg most l now
 | [],now,n,_,_,_=>by cases now<;>rfl
 | p::r,now,n,hr,hn,hb=>by
  have hp:=hr p Yk;have hs:=Zcrb hp;have h1:=Zcje p;have h2:=Zcwc p;simp only [Zlb,Zcg];rw [hs,hn,Zh (n:=((Zo now).length:Int)+((Zdl p).length:Int)) (by omega) (by omega),Zh (n:=0+((Zdl p).length:Int)) (by omega) (by omega)]
  have e1:(Zo [p]).length=(Zdl p).length:=by simp [Zo]
  by_cases hc:most<(Zo now).length+(Zdl p).length;rw [if_pos (by omega),if_pos hc,Zbmx hm r [p] _ (fun q hq=>hr q (Yi _ hq)) (by rw [e1];omega) (by omega)]
  rw [if_neg (by omega),if_neg hc,Zbmx hm r (now++[p]) _ (fun q hq=>hr q (Yi _ hq)) (by rw [Zbdx,Yb];omega) (by rw [Zbdx,Yb];omega)]
theorem Zpf {most:Nat}: ∀(l now:List Pf),(Zcg most l now).length <= l.length+1∧∀x∈Zcg most l now,x.length <= now.length+l.length
 | [],now=>by cases now<;>simp [Zcg]
 | p::r,now=>by
  simp only [Zcg];split
  ·obtain ⟨q1,q2⟩:=Zpf (most:=most) r [p];refine ⟨by simp only [List.length_cons];omega,fun x hx=>?_⟩
   rcases Yj.1 hx with rfl | hx;simp only [List.length_cons];omega;have:=q2 x hx;simp only [List.length_cons,List.length_nil] at this ⊢;omega
  ·obtain ⟨q1,q2⟩:=Zpf (most:=most) r (now++[p]);refine ⟨by simp only [List.length_cons];omega,fun x hx=>?_⟩
   have:=q2 x hx;simp only [List.length_cons,Yb,List.length_nil] at this ⊢;omega
theorem Zdv.over {T X:Type} {fin:T->Prop} {body:T->X->(T->Prop)->Prop} (S:List X->T): ∀(post pre:List X),(∀pre' x post',pre++post=pre'++x::post'->∀next:T->Prop,next (S (pre'++[x]))->body (S pre') x next)->fin (S (pre++post))->Zdv fin body post (S pre)
 | [],pre,_,he=>by rw [Yv] at he;exact he
 | x::r,pre,hr,he=>by
  have e:pre++x::r=(pre++[x])++r:=by simp
  exact hr pre x r rfl _ (Zdv.over S r (pre++[x]) (fun pre' y post' h=>hr pre' y post' (by rw [e];exact h)) (by rw [← e];exact he))
theorem Zcls {T X:Type} {fin:T->Prop} {body:T->X->(T->Prop)->Prop} {xs ys:List X} {y:T} (e:xs=ys) (h:Zdv fin body ys y):Zdv fin body xs y:=e▸h
theorem Zddz {T X:Type} {fin:T->Prop} {body:T->X->(T->Prop)->Prop} {xs:List X} {x y:T} (e:y=x) (h:Zdv fin body xs y):Zdv fin body xs x:=e▸h
def isT (c:Ch):Bool:=c.2.2.2.2.2.2.2.2.2.2.2.2.2.2.2
def isG (c:Ch):Bool:=!isT c
def Zfi (c:Ch):Bool:=Zp (chP c)&&(!isT c||Zdh (Zs c))
theorem Zcuc (c:Ch) (K:Bool->Prop) (hf:FitA (Zs c)) (h:K (Zfi c)):Zbew c K:=by
 unfold Zbew;simp only [Zdc];unfold Zfi at h;refine fun _=>Zbur c.1 c.2.1 _ fun _=>IfB.intro (fun h1=>?_) (fun h1=>?_)
 ·have h1:Zp (chP c)=true:=h1;rw [h1,YT] at h;refine IfB.intro (fun h2=>?_) (fun h2 _=>?_)
  ·have h2:isT c=false:=by simpa [isT] using h2
   rw [h2] at h;exact h
  ·have h2:isT c=true:=by simpa [isT] using h2
   rw [h2] at h;refine Zcej (Zs c) _ hf.p1 hf.p2 hf.o1 fun _=>of_eq h ?_;cases Zdh (Zs c)<;>rfl
 have h1:Zp (chP c)=false:=h1;rw [h1] at h;exact h
def Zfg (x:List Pf):Upd:=(x,[],0,[],0,false,0,false,0,false,false,0,0,[],[],0)
def Zgc (x:List Pf) (c:Ch):Upd:=([],x,c.2.2.1,c.2.2.2.1,c.2.2.2.2.1,c.2.2.2.2.2.1,c.2.2.2.2.2.2.1,c.2.2.2.2.2.2.2.1,c.2.2.2.2.2.2.2.2.1,c.2.2.2.2.2.2.2.2.2.1,c.2.2.2.2.2.2.2.2.2.2.1,c.2.2.2.2.2.2.2.2.2.2.2.1,c.2.2.2.2.2.2.2.2.2.2.2.2.1,c.2.2.2.2.2.2.2.2.2.2.2.2.2.1,c.2.2.2.2.2.2.2.2.2.2.2.2.2.2.1,0)
theorem Zcyc (x:List Pf) (c:Ch):Zdd (Zgc x c)=Zs c:=rfl
def Zjb (l:List Ch) (four:Bool):List (List UInt8):=(Zcg 4073 ((l.filter isG).map chP) []).map fun x=>msgU (Zfg x) four
def grpM (four:Bool) (g:List Ch):List (List UInt8):=match g with
 | []=>[]
 | c::_=>(Zcg (4073 - (Zck four (Zs c)).length) (g.map chP) []).map fun x=>msgU (Zgc x c) four
def Zfv (l:List Ch) (four:Bool):List (List UInt8)×Int:=
 if l.all Zfi then (Zjb l four++(grpF (l.filter isT)).flatMap (grpM four),0) else ([],2)
theorem fit0 (x:List Pf):FitA (Zdd (Zfg x)):=⟨by simp [Zdd,Zfg,Za.path],by simp [Zdd,Zfg,Za.path,cnt],by simp [Zdd,Zfg,Za.path],by simp [Zdd,Zfg,Za.others]⟩
theorem Zcxv (l:List Ch) (four:Bool):(Zjb l four).length <= l.length+1:=by unfold Zjb;rw [Yz];obtain ⟨q1,_⟩:=Zpf (most:=4073) ((l.filter isG).map chP) [];have:=YZ isG l;rw [Yz] at q1;omega
theorem Zcpb (four:Bool) (g:List Ch):(grpM four g).length <= g.length+1:=by
 unfold grpM;cases g with
 | nil=>simp
 | cons c r=>
  simp only;rw [Yz];obtain ⟨q1,_⟩:=Zpf (most:=4073 - (Zck four (Zs c)).length) ((c::r).map chP) [];rw [Yz] at q1;exact q1
theorem Zbuz {n:Nat} (four:Bool): ∀(gs:List (List Ch)),(∀g∈gs,g.length <= n)->(gs.flatMap (grpM four)).length <= gs.length*(n+1)
 | [],_=>by simp
 | g::r,h=>by have h1:=Zcpb four g;have h2:=Zbuz four r fun g' hg=>h g' (Yi _ hg);have h3:=h g Yk;rw [Y5,Yb,List.length_cons,Ypa];omega
theorem Zdei {l:List Ch} (h:l.all Zfi=true): ∀c∈l,Zp (chP c)=true∧(isT c=true->Zdh (Zs c)=true):=fun c hc=>by have:=Yp.1 h c hc;unfold Zfi at this;rw [Ya] at this;refine ⟨this.1,fun ht=>?_⟩;have h2:=this.2;rw [ht] at h2;simpa using h2
theorem Zcms {l:List Ch} (h: ∀c∈l,Zp (chP c)=true): ∀p∈l.map chP,Zp p=true:=fun p hp=>by obtain ⟨c,hc,rfl⟩:=YS.1 hp;exact h c hc
theorem Zbuq {most:Nat} (hm:most <= 100000) (l:List Ch) (hr: ∀c∈l,Zp (chP c)=true):Zbec l (most:Int)=(Zcg most (l.map chP) []).map fun x=>(x,()):=by unfold Zbec;rw [Zbmx hm _ [] 0 (Zcms hr) (by simp [Zo]) (by simp [Zo])]
theorem Zcio {A B:Type} (xs:List A) (f:A->B):(xs.map fun x=>(x,())).map (fun y=>f y.1)=xs.map f:=by rw [Ywa];rfl
theorem Zcag (l:List Ch) (four:Bool) (K:List (List UInt8)->Int->Prop) (hl:l.length <= 1000000) (hf: ∀c∈l,FitA (Zs c)) (h:K (Zfv l four).1 (Zfv l four).2):Zux l four K:=by
 unfold Zux;refine Zl.over l (fun pre=>(pre.filter isG,pre.filter isT,(pre.length:Int),())) (fun pre=>pre.all Zfi=true) rfl rfl (fun pre c post hp hn hP next hx=>?_) (fun hP next _=>?_)
 ·intro _;dsimp only [Zbim];have f1:=YZ isG pre;have f2:=YZ isT pre;simp only [Zdc];refine ifT (decide_eq_true (by omega)) ⟨by omega,AtN.of (Zbe hp) fun _ _=>Zcuc c _ (hf c (by simp [hp])) fun _=>?_⟩
  refine IfB.intro (fun h1=>?_) (fun h1=>?_)
  ·have:l.all Zfi=false:=by
    have h1:Zfi c=false:=by simpa using h1
    rw [hp];simp [h1]
   unfold Zfv at h;rw [this] at h;exact h
  ·have h1:Zfi c=true:=by simpa using h1
   have hP2:(pre++[c]).all Zfi=true:=by simp [hP,h1]
   refine IfB.intro (fun h2=>⟨by simp only [List.length_cons,List.length_nil];omega,?_⟩) (fun h2=>⟨by simp only [List.length_cons,List.length_nil];omega,?_⟩)
   ·have h2:isT c=true:=h2;dsimp only [Zyj];refine of_eq (hx hP2) ?_;rw [Zh (by omega) (by omega),Y1a,Y1a,List.filter_cons_of_neg (by simp [isG,h2]),List.filter_cons_of_pos (by simp [isG,h2])]
    simp
   ·have h2:isT c=false:=h2;dsimp only [Zyj];refine of_eq (hx hP2) ?_;rw [Zh (by omega) (by omega),Y1a,Y1a,List.filter_cons_of_pos (by simp [isG,h2]),List.filter_cons_of_neg (by simp [isG,h2])]
    simp
 ·dsimp only [Zbim];refine ifF (decide_eq_false (by omega)) ?_
  unfold Zfv at h;rw [hP,if_pos rfl] at h;have hrt:=Zdei hP;have f1:=YZ isG l;have f2:=YZ isT l;refine ⟨by show (l.filter isG).length <= 1000000000;omega,?_⟩
  have hgl:=Zcxv l four;have hx:Zee.xs (l.filter isG,(4073:Int),())=(Zcg 4073 ((l.filter isG).map chP) []).map fun x=>(x,()):=
   Zbuq (by decide) _ fun c hc=>(hrt c (YC.1 hc).1).1
  refine Zcls hx ?_;have hg:Zjb l four=(Zcg 4073 ((l.filter isG).map chP) []).map fun x=>msgU (Zfg x) four:=rfl;obtain ⟨_,pl⟩:=Zpf (most:=4073) ((l.filter isG).map chP) [];rw [Yz] at pl;generalize Zcg 4073 ((l.filter isG).map chP) []=xs at hg pl;refine Zdv.over (fun pre:List (List Pf×Unit)=>(pre.map fun y=>msgU (Zfg y.1) four,())) _ [] (fun pre x post hp next hn=>?_) ?_
  ·intro _ _;rw [List.nil_append] at hp;dsimp only [Zckq];have hxm:x.1∈xs:=by
    have:x∈xs.map fun x=>(x,()):=by rw [hp];simp
    obtain ⟨y,hy,rfl⟩:=YS.1 this;exact hy
   have hpl:pre.length <= xs.length:=by have:=congrArg List.length hp;simp only [Yz,Yb,List.length_cons] at this;omega
   have hxl:=pl _ hxm;have hgx:xs.length <= l.length+1:=by rw [hg,Yz] at hgl;exact hgl
   refine fun _=>Zbpg (Zfg x.1) four _ (by show x.1.length <= _;simp only [List.length_nil] at hxl;omega) (by show ([]:List Pf).length <= _;simp) (fit0 _) fun _=>⟨by simp only [Yz,List.length_cons,List.length_nil];omega,of_eq hn ?_⟩
   simp
  ·intro _;rw [List.nil_append,Zcio xs (fun x=>msgU (Zfg x) four),← hg];dsimp only [Zbrt];refine fun _=>⟨by omega,?_⟩
   rw [Zcvk];have hgm:=Zcgn _ (l.filter isT) (Yh _);have hgn:=Zbsb _ (l.filter isT) (Yh _);generalize grpF (l.filter isT)=gs at h hgm hgn;intro _;refine Zl.over gs (fun pre=>((pre.length:Int),Zjb l four++pre.flatMap (grpM four),())) (fun _=>True) (by simp) trivial (fun pre g post hp hn _ next hx=>?_) (fun _ next _=>?_)
   ·intro _;dsimp only [Zbih];obtain ⟨g1,g2,g3⟩:=hgm g (by simp [hp])
    have hfl:=Zbuz (n:=l.length) four pre fun g' hg'=>by
     obtain ⟨_,_,q3⟩:=hgm g' (by rw [hp];simp [hg'])
     omega
    have hpn:pre.length <= 1000000:=by omega
    have hfl2:(pre.flatMap (grpM four)).length <= 1000000*1000001:=Yoa hfl (YKa hpn (by omega))
    cases g with
    | nil=>exact absurd rfl g1
    | cons c r=>
     have hcl:c∈l:=(YC.1 (g2 c Yk)).1;have hct:isT c=true:=(YC.1 (g2 c Yk)).2;have hok:=(hrt c hcl).2 hct;have hal:=Zbit (four:=four) hok;have hfc:=hf c hcl;simp only [Zdc];refine ifT (decide_eq_true (by omega)) ⟨by omega,AtN.of (Zbe hp) fun _=>⟨by omega,AtN.of (x:=c) rfl fun _ _=>?_⟩⟩
     refine Zckr (Zs c) four _ hfc.p1 hfc.p2 hfc.p3 hfc.o1 ?_;rw [hok,if_pos rfl];refine fun _=>⟨by show (c::r).length <= 1000000000;omega,?_⟩
     have e1:IntKind.wrap .i64 (4073 - ((Zck four (Zs c)).length:Int))=((4073 - (Zck four (Zs c)).length:Nat):Int):=by
      rw [Zh (by omega) (by omega)];omega
     rw [e1];have hx2:Zee.xs (c::r,((4073 - (Zck four (Zs c)).length:Nat):Int),())=(Zcg (4073 - (Zck four (Zs c)).length) ((c::r).map chP) []).map fun x=>(x,()):=
      Zbuq (by omega) _ fun d hd=>(hrt d (YC.1 (g2 d hd)).1).1
     refine Zcls hx2 ?_;obtain ⟨pn,pl⟩:=Zpf (most:=4073 - (Zck four (Zs c)).length) ((c::r).map chP) [];rw [Yz] at pl pn;have hgm2:grpM four (c::r)=(Zcg (4073 - (Zck four (Zs c)).length) ((c::r).map chP) []).map fun x=>msgU (Zgc x c) four:=rfl;generalize Zcg (4073 - (Zck four (Zs c)).length) ((c::r).map chP) []=xs at hgm2 pl pn;refine Zddz (y:=(((Zjb l four++pre.flatMap (grpM four))++([]:List (List Pf×Unit)).map fun y=>msgU (Zgc y.1 c) four),())) (by simp) (Zdv.over (fun pre2:List (List Pf×Unit)=>((Zjb l four++pre.flatMap (grpM four))++pre2.map fun y=>msgU (Zgc y.1 c) four,())) _ [] (fun pre2 x post2 hp2 next2 hn2=>?_) ?_)
     ·intro _ _;rw [List.nil_append] at hp2;dsimp only [Zcll];have hxm:x.1∈xs:=by
       have:x∈xs.map fun x=>(x,()):=by rw [hp2];simp
       obtain ⟨y,hy,rfl⟩:=YS.1 this;exact hy
      have hpl:pre2.length <= xs.length:=by have:=congrArg List.length hp2;simp only [Yz,Yb,List.length_cons] at this;omega
      have hxl:=pl _ hxm;simp only [List.length_cons,List.length_nil] at hxl pn g3;simp only [Zdc];refine fun _=>Zbpg (Zgc x.1 c) four _ (by show ([]:List Pf).length <= _;simp) (by show x.1.length <= _;omega) (by rw [Zcyc];exact hfc) fun _=>⟨by simp only [Yb,Yz,List.length_cons,List.length_nil];omega,of_eq hn2 ?_⟩
      simp
     ·intro _;dsimp only [Zbto];refine of_eq (hx trivial) ?_;rw [Zh (by omega) (by omega),List.nil_append,Zcio xs (fun x=>msgU (Zgc x c) four),← hgm2]
      simp
   dsimp only [Zbih];exact ifF (decide_eq_false (by omega)) h
def dn (pre:List Ch) (y:Ch):Bool:=isT y&&pre.any fun p=>isT p&&Zch p y
def fewC (c:Ch):Ch:=(c.1,c.2.1,c.2.2.1,c.2.2.2.1.take 6,c.2.2.2.2.1,c.2.2.2.2.2.1,c.2.2.2.2.2.2.1,c.2.2.2.2.2.2.2.1,c.2.2.2.2.2.2.2.2.1,c.2.2.2.2.2.2.2.2.2.1,c.2.2.2.2.2.2.2.2.2.2.1,c.2.2.2.2.2.2.2.2.2.2.2.1,c.2.2.2.2.2.2.2.2.2.2.2.2.1,c.2.2.2.2.2.2.2.2.2.2.2.2.2.1.take 40,c.2.2.2.2.2.2.2.2.2.2.2.2.2.2.1.take 9,c.2.2.2.2.2.2.2.2.2.2.2.2.2.2.2)
def SzC (c:Ch):Prop:=(∀s∈c.2.2.2.1,s.2.length <= 35184372088736)∧∀x∈c.2.2.2.2.2.2.2.2.2.2.2.2.2.2.1,x.2.length <= 140737488355232
theorem Zdpl {c:Ch} (h:SzC c):FitA (Zs (fewC c))∧(∀s∈(Zs (fewC c)).path,s.2.length <= 9223372036854775807)∧(Zs (fewC c)).comms.length <= 9223372036854775807:=by
 have hp:(Zs (fewC c)).path=c.2.2.2.1.take 6:=rfl;have hcm:(Zs (fewC c)).comms=c.2.2.2.2.2.2.2.2.2.2.2.2.2.1.take 40:=rfl;have ho:(Zs (fewC c)).others=c.2.2.2.2.2.2.2.2.2.2.2.2.2.2.1.take 9:=rfl;have h6:(c.2.2.2.1.take 6).length <= 6:=by simp only [Yo];omega
 have hs: ∀s∈c.2.2.2.1.take 6,s.2.length <= 35184372088736:=fun s hs=>h.1 s (YHa hs);have hc:=Zccs _ _ hs;refine ⟨⟨by rw [hp];omega,by rw [hp];omega,fun s hm=>?_,?_⟩,fun s hm=>?_,?_⟩
 rw [hp] at hm;have:=hs s hm;omega;rw [ho];simp only [Yo];omega;rw [hp] at hm;have:=hs s hm;omega;rw [hcm];simp only [Yo];omega
theorem mini (n:Nat) (m:Nat):(min (n:Int) (m:Int)).toNat=min n m:=by omega
theorem Zcyy (l:List Ch) (n:Nat) (K:List Ch->Prop) (hn:n <= 100) (hl:l.length <= 9223372036854775807) (hs: ∀c∈l,SzC c) (h:K ((l.take n).map fewC)):Zzi l n K:=by
 unfold Zzi;have hml:(l.take n).length=min n l.length:=Yo;refine Zl.over (l.take n) (fun pre=>(pre.map fewC,(pre.length:Int),())) (fun _=>True) rfl trivial (fun pre c post hp hm _ next hx=>?_) (fun _ next _=>?_)
 ·intro _;dsimp only [Zbjy,Zbhb];have hlc:l[pre.length]? =some c:=by
   have:(l.take n)[pre.length]? =some c:=by rw [hp];simp
   rwa [Yca (by omega)] at this
  have hcm:c∈l:=Yva hlc;obtain ⟨s1,s2⟩:=hs c hcm;refine ifT (decide_eq_true (by omega)) (ifT (decide_eq_true (by omega)) ⟨by omega,AtN.of (by rw [Int.toNat_natCast];exact hlc) fun _=>⟨by omega,by omega,by omega,by omega,by omega,by omega,?_⟩⟩)
  have e6:(min (c.2.2.2.1.length:Int) 6).toNat=min c.2.2.2.1.length 6:=mini _ 6;have e40:(min (c.2.2.2.2.2.2.2.2.2.2.2.2.2.1.length:Int) 40).toNat=min c.2.2.2.2.2.2.2.2.2.2.2.2.2.1.length 40:=mini _ 40;have e9:(min (c.2.2.2.2.2.2.2.2.2.2.2.2.2.2.1.length:Int) 9).toNat=min c.2.2.2.2.2.2.2.2.2.2.2.2.2.2.1.length 9:=mini _ 9;rw [e6,e40,e9,Zbjo,Zbjo,Zbjo];simp only [Zdc];refine fun _=>Zcvy _ _ ?_ ?_ ?_ ?_ ?_ fun _=>⟨by simp only [Yz,List.length_cons,List.length_nil];omega,of_eq (hx trivial) ?_⟩
  simp only [Za.path,Yo];omega;exact fun s hm=>s1 s (YHa hm);simp only [Za.comms,Yo];omega;simp only [Za.others,Yo];omega;exact fun x hm=>s2 x (YHa hm)
  ·rw [Zh (by omega) (by omega)]
   simp [fewC]
 ·dsimp only [Zbjy,Zbhb];by_cases hc:((l.take n).length:Int)<(l.length:Int);exact ifT (decide_eq_true hc) (ifF (decide_eq_false (by omega)) h)
  exact ifF (decide_eq_false hc) (ifF rfl h)
def wA:Ch:=(167772160,8,0,[],1,false,0,false,0,false,false,0,0,[],[],true)
def wB:Ch:=(184549376,8,0,[],1,false,0,false,0,false,false,0,0,[],[],true)
theorem Zdjw: [wA,wB].all Zfi=true:=by decide
theorem Zdnj:(Zfv [wA,wB] true).2=0∧(Zfv [wA,wB] true).1.length=1:=by unfold Zfv;rw [Zdjw,if_pos rfl];refine ⟨rfl,?_⟩;have h1: [wA,wB].filter isT= [wA,wB]:=rfl;have h2:Zjb [wA,wB] true= []:=rfl;have h3:([wB].filter fun y=>Zch wA y)= [wB]:=rfl;have h4:([wB].filter fun y=>!Zch wA y)= []:=rfl;rw [h1,h2,Zpj,h3,h4,Zvc];rfl
theorem Zcyr (K:Bool->Prop) (h:K true):Zbdh K:=by
 unfold Zbdh;have hfit: ∀c∈[wA,wB],FitA (Zs c):=fun c hc=>by
  rcases Yj.1 hc with rfl | hc;exact ⟨by decide,by decide,by decide,by decide⟩
  rw [YB] at hc;subst hc;exact ⟨by decide,by decide,by decide,by decide⟩
 refine fun _=>Zcag [wA,wB] true _ (by decide) hfit fun _=>?_
 obtain ⟨h1,h2⟩:=Zdnj;rw [h1,h2];refine ifT rfl (ifT rfl fun _=>?_);unfold Zbpt;refine fun _=>Zbpg (Zfg []) true _ (by decide) (by decide) (fit0 _) fun _ _ _=>Zcvo (Zfg []) true _ (by decide) (by decide) rfl (fit0 _) fun _ _=>?_
 unfold Zbpx;rw [beq_self_eq_true];exact fun _=>h
def pv (l:List (List UInt8)):Nat:=l.foldl (fun a w=>a*256+val w) 0
theorem Zcbv (x y:UInt8) (r:List UInt8) (K:Int->Prop) (h:K ((x.toNat*256+y.toNat:Nat):Int)):Zqp (x::y::r) K:=by
 have hx:=YD x;have hy:=YD y;unfold Zqp;refine ⟨by decide,AtN.of rfl fun _=>⟨by decide,by decide,AtN.of rfl fun _=>of_eq h ?_⟩⟩
 rw [Zjp x.toNat (by omega),Zjp y.toNat (by omega),show (x.toNat:Int)*256=((x.toNat*256:Nat):Int) by omega,Zjp _ (by omega),Zix .i64 _ _ (Zmu (by omega)) (Zmu (by omega)),Ztk _ _ (by omega),Zjp _ (by omega)]
theorem Zdiv (x y:UInt8) (r:List UInt8) (K:List UInt8->List UInt8->Bool->Prop) (hl:r.length <= 1000000000) (h:if x.toNat*256+y.toNat <= r.length then K (r.take (x.toNat*256+y.toNat)) (r.drop (x.toNat*256+y.toNat)) true else K [] [] false):Zky (x::y::r) K:=by
 have hx:=YD x;have hy:=YD y;unfold Zky;refine ifF (decide_eq_false (by simp only [List.length_cons];omega)) fun _=>Zcbv x y r _ fun _=>?_
 have e:(((x::y::r).length:Nat):Int) - 2=(r.length:Int):=by simp only [List.length_cons];omega
 rw [e,Zh (n:=(r.length:Int)) (by omega) (by omega)]
 generalize hn:x.toNat*256+y.toNat=n at*;by_cases hc:n <= r.length
 ·rw [if_pos hc] at h;rw [decide_eq_false (by omega)]
  unfold Zrs;refine ifF rfl fun _=>Zcbv x y r _ fun _=>?_;rw [hn];have e2:IntKind.wrap .i64 (2+(n:Int))=((2+n:Nat):Int):=by rw [Zh (by omega) (by omega)];omega
  rw [e2,Int.toNat_natCast];refine ⟨by omega,by simp only [List.length_cons];omega,by decide,by omega,by omega,by simp only [List.length_cons];omega,?_⟩
  have a1:(x::y::r).take (2+n)=x::y::r.take n:=by rw [Y7];rfl
  have a2:(x::y::r).drop (2+n)=r.drop n:=by rw [Y7];rfl
  rw [a1,a2];exact h
 ·rw [if_neg hc] at h;rw [decide_eq_true (by omega)]
  unfold Zrs;exact ifT rfl h
def allF (l:List PfB):List Pf×Bool:=if l.all (fun x=>x.2.1)=true then (l.map fun x=>x.1,true) else ([],false)
theorem Zcah (b:List UInt8) (K:List Pf->Bool->Prop) (hl:b.length <= 1000000000) (hp:(Zbp b).length <= 1000000000) (h:K (allF (Zbp b)).1 (allF (Zbp b)).2):Zsj b K:=by
 unfold Zsj;refine ⟨show b.length <= _ by omega,?_⟩
 show Zdv _ _ (Zbp b) _;have main: ∀(post pre:List PfB),pre++post=Zbp b->pre.all (fun x=>x.2.1)=true->Zdv (fun (y:(List (UInt32×Int)×Bool×List (UInt32×Int)×Unit))=>WfY Zqd.kinds y->Zbjh y.1 y.2.1 y.2.2.1 K)
   (fun (y:(List (UInt32×Int)×Bool×List (UInt32×Int)×Unit)) (x:((UInt32×Int)×Bool×Unit)) (next:(List (UInt32×Int)×Bool×List (UInt32×Int)×Unit)->Prop)=>WfY Zqd.kinds y->WfPs Zhz.ps x->Zbzp y.1 y.2.1 y.2.2.1 x.1 x.2.1 next K) post (([]:List (UInt32×Int)),false,(pre.map fun x=>x.1),()):=by
  intro post;induction post with
  | nil=>
   intro pre he ha _;rw [Yv] at he;subst he;unfold Zbjh;unfold allF at h;rw [if_pos ha] at h;exact h
  | cons x post ih=>
   intro pre he ha _ _;refine IfB.intro (b:=!x.2.1) (fun h1=>?_) (fun h1=>?_)
   ·have h1:x.2.1=false:=by simpa using h1
    have hb: ¬(Zbp b).all (fun x=>x.2.1)=true:=by rw [← he];simp [h1]
    unfold allF at h;rw [if_neg hb] at h;exact h
   ·have h1:x.2.1=true:=by simpa using h1
    have hlen:=congrArg List.length he;simp only [Yb,List.length_cons] at hlen;refine ⟨by simp only [Yz,List.length_cons,List.length_nil];omega,?_⟩
    have e:(pre.map fun x=>x.1)++[((ofI .u32 (x.1.1.toNat:Int)),x.1.2)]=(pre++[x]).map fun x=>x.1:=by simp [Zdc]
    have:=ih (pre++[x]) (by rw [Yu];exact he) (by rw [List.all_append,ha];simp [h1])
    rw [← e] at this;exact this
 exact main (Zbp b) [] rfl rfl
def Zib:List UInt8->Option (List UInt8×List UInt8)
 | x::y::r=>if x.toNat*256+y.toNat <= r.length then some (r.take (x.toNat*256+y.toNat),r.drop (x.toNat*256+y.toNat)) else none
 | _=>none
theorem Zclq {b w r:List UInt8} (h:Zib b=some (w,r)):w.length <= b.length∧r.length <= b.length:=by unfold Zib at h;split at h;rename_i x y r';split at h;cases h;simp only [Yo,Yq,List.length_cons];omega;cases h;cases h
theorem Zbxu (b:List UInt8) (K:List UInt8->List UInt8->Bool->Prop) (hl:b.length <= 1000000000) (h1: ∀w r,Zib b=some (w,r)->K w r true) (h2:Zib b=none->K [] [] false):Zky b K:=by
 have short:b.length<2->Zky b K:=fun hs=>by
  unfold Zky;refine ifT (decide_eq_true (by omega)) ?_
  unfold Zrs;refine ifT rfl (h2 ?_)
  match b,hs with
  | [],_=>rfl
  | [_],_=>rfl
 match b,short with
 | [],short=>exact short (by decide)
 | [_],short=>exact short (by simp)
 | x::y::r,_=>
  refine Zdiv x y r K (by simp only [List.length_cons] at hl;omega) ?_
  split;rename_i hc;exact h1 _ _ (by simp only [Zib];rw [if_pos hc])
  rename_i hc;exact h2 (by simp only [Zib];rw [if_neg hc])
theorem Zbes: ∀(k:Nat) (s:List UInt8),(Zho k s).length <= k
 | 0,_=>by simp [Zho]
 | _+1,[]=>by simp [Zho]
 | k+1,x::r=>by simp only [Zho];split;have:=Zbes k (r.drop (oct8 x.toNat));simp only [List.length_cons];omega;simp
theorem Zbzi (s:List UInt8):(allF (Zbp s)).1.length <= s.length:=by unfold allF;split;rw [Yz];exact Zbes _ _;simp
def mkU (g t:List Pf) (a:Za) (f:Int):Upd:=(g,t,a.1,a.2.1,a.2.2.1,a.2.2.2.1,a.2.2.2.2.1,a.2.2.2.2.2.1,a.2.2.2.2.2.2.1,a.2.2.2.2.2.2.2.1,a.2.2.2.2.2.2.2.2.1,a.2.2.2.2.2.2.2.2.2.1,a.2.2.2.2.2.2.2.2.2.2.1,a.2.2.2.2.2.2.2.2.2.2.2.1,a.2.2.2.2.2.2.2.2.2.2.2.2,f)
def Zpo:Upd:=mkU [] [] Zfe 0
def Zmo (four:Bool) (b:List UInt8):Upd×(Int×Int×List UInt8)×Bool:=
 match Zib b with
 | none=>(Zpo,(3,1,[]),false)
 | some (w,r)=>match Zib r with
  | none=>(Zpo,(3,1,[]),false)
  | some (x,t)=>
   if (Zci four (decide (0<t.length)) x).2.1=3 then (Zpo,Zor (Zci four (decide (0<t.length)) x).2.2,false)
   else if (allF (Zbp w)).2=true∧(allF (Zbp t)).2=true then
    if (Zci four (decide (0<t.length)) x).2.1=2 then (mkU ((allF (Zbp w)).1++(allF (Zbp t)).1) [] Zfe 2,(0,0,[]),true)
    else if 0<(allF (Zbp t)).1.length then (mkU (allF (Zbp w)).1 (allF (Zbp t)).1 (Zci four (decide (0<t.length)) x).1 (Zci four (decide (0<t.length)) x).2.1,(0,0,[]),true)
    else (mkU (allF (Zbp w)).1 [] Zfe (Zci four (decide (0<t.length)) x).2.1,(0,0,[]),true)
   else (Zpo,(3,10,[]),false)
theorem Zdot (b:List UInt8) (four:Bool) (K:Upd->Int×Int×List UInt8->Bool->Prop) (hl:b.length <= 100000) (h:K (Zmo four b).1 (Zmo four b).2.1 (Zmo four b).2.2):Zbbf b four K:=by
 unfold Zbbf;simp only [Zdc];unfold Znc;unfold Zmo at h;refine fun _=>Zbxu b _ (by omega) (fun w r e1 _=>?_) fun e1 _=>?_
 rotate_left
 rw [e1] at h;exact ifT rfl fun _ _=>h;rw [e1] at h;obtain ⟨l1,l2⟩:=Zclq e1;refine ifF rfl fun _=>Zbxu r _ (by omega) (fun x t e2 _=>?_) fun e2 _=>?_
 rotate_left
 simp only [e2] at h;exact ifT rfl fun _ _=>h;simp only [e2] at h;obtain ⟨l3,l4⟩:=Zclq e2;have ed:decide ((((t.length:Nat):Int):Int)>0)=decide (0<t.length):=by
  by_cases hc:0<t.length;rw [decide_eq_true hc,decide_eq_true (by omega)]
  rw [decide_eq_false hc,decide_eq_false (by omega)]
 rw [ed];refine fun _=>⟨by omega,fun _=>?_⟩
 generalize Zci four (decide (0<t.length)) x=q at*;have p1:=Zbzi w;have p2:=Zbzi t;have q1:=Zbes w.length w;have q2:=Zbes t.length t;refine IfB.intro (fun g=>?_) (fun g _=>Zcah w _ (by omega) (by unfold Zbp;omega) fun _ _=>Zcah t _ (by omega) (by unfold Zbp;omega) fun _=>?_)
 ·have g:(q.2.1:Int)=3:=by simpa using g
  rw [if_pos (by omega)] at h;exact h
 have g: ¬(q.2.1:Int)=3:=by simpa using g
 rw [if_neg (by omega)] at h
 have bad: ¬((allF (Zbp w)).2=true∧(allF (Zbp t)).2=true)->Zqb q.1 (q.2.1:Int) (allF (Zbp w)).1 (allF (Zbp t)).1 true K:=fun hb=>by rw [if_neg hb] at h;unfold Zqb Znc;simp only [Zdc];exact ifT rfl fun _ _=>h
 refine IfB.intro (fun g1=>bad fun e=>by rw [e.1] at g1;cases g1) (fun g1=>?_)
 have g1:(allF (Zbp w)).2=true:=by simpa using g1
 cases g2:(allF (Zbp t)).2 with
 | false=>exact bad fun e=>by rw [g2] at e;exact absurd e.2 (by decide)
 | true=>
  rw [if_pos ⟨g1,g2⟩] at h;unfold Zqb;refine ifF rfl (IfB.intro (fun g3=>?_) (fun g3=>IfB.intro (fun g4=>?_) (fun g4=>?_)))
  ·have g3:(q.2.1:Int)=2:=by simpa using g3
   rw [if_pos (by omega)] at h
   refine ⟨by omega,?_⟩
   unfold Zna;rw [g3];exact h
  ·have g3: ¬(q.2.1:Int)=2:=by simpa using g3
   have g4:0<(allF (Zbp t)).1.length:=by have:=of_decide_eq_true g4;omega
   rw [if_neg (by omega),if_pos g4] at h
   unfold Zna;simp only [Zdc];exact h
  ·have g3: ¬(q.2.1:Int)=2:=by simpa using g3
   have g4: ¬0<(allF (Zbp t)).1.length:=by have:=of_decide_eq_false g4;omega
   rw [if_neg (by omega),if_neg g4] at h
   unfold Zna;exact h
theorem Zdlk (j m:Nat) (x:UInt8) (hj:j <= 3) (hm:m<256^j):Zhn ((2^(32 - 8*j)*m:Nat):Int) j x=((2^(24 - 8*j)*(m*256+x.toNat):Nat):Int):=by
 have hx:=YD x;have e1:2^(32 - 8*j)=2^(24 - 8*j)*256:=by rw [show 32 - 8*j=24 - 8*j+8 by omega,Nat.pow_add]
 have e2:2^(24 - 8*j)*256^(j+1)=4294967296:=by
  have:(256:Nat)^(j+1)=2^(8*(j+1)):=by rw [Nat.pow_mul]
  rw [this,← Nat.pow_add,show 24 - 8*j+8*(j+1)=32 by omega]
 have hp:0<2^(24 - 8*j):=YPa _;have h1:m*256+x.toNat<256^(j+1):=by rw [Nat.pow_succ];omega
 have h2:2^(24 - 8*j)*(m*256+x.toNat)<4294967296:=by rw [← e2];exact Nat.mul_lt_mul_of_pos_left h1 hp
 have h3:2^(32 - 8*j)*m+x.toNat*2^(24 - 8*j)=2^(24 - 8*j)*(m*256+x.toNat):=by rw [e1,Nat.mul_add,Yla x.toNat,Yrb,Yla 256 m]
 have h4:x.toNat*2^(24 - 8*j)<2^(32 - 8*j):=by rw [e1,Yla];exact Nat.mul_lt_mul_of_pos_left hx hp
 unfold Zhn
 rw [Ycb (by omega),wu32 (a:=x.toNat) (by omega),show (x.toNat:Int)*2^(24 - 8*j)=((x.toNat*2^(24 - 8*j):Nat):Int) by rw [Int.natCast_mul,Int.natCast_pow];rfl,wu32 (by omega),Zix .u32 _ _ (Zgs (by omega)) (Zgs (by omega)),Ztm _ _ _ h4,wu32 (by omega),h3]
theorem Zcgp: ∀(l:List UInt8) (j m:Nat),j+l.length <= 4->m<256^j->pxF j ((2^(32 - 8*j)*m:Nat):Int) l=((2^(32 - 8*(j+l.length))*l.foldl (fun a x=>a*256+x.toNat) m:Nat):Int)
 | [],j,m,_,_=>rfl
 | x::l,j,m,hl,hm=>by
  simp only [List.length_cons] at hl;have hx:=YD x;simp only [pxF];rw [Zdlk j m x (by omega) hm,show 24 - 8*j=32 - 8*(j+1) by omega,Zcgp l (j+1) (m*256+x.toNat) (by omega) (by rw [Nat.pow_succ];omega)]
  simp only [List.length_cons,List.foldl_cons];rw [show j+1+l.length=j+(l.length+1) by omega]
theorem Zcvh (l:List UInt8) (h:l.length <= 4):pxN l=numB l*256^(4 - l.length):=by
 have:=Zcgp l 0 0 (by omega) (by decide)
 unfold pxN;have e:((2^(32 - 8*0)*0:Nat):Int)=0:=by simp
 rw [e] at this;rw [this,Int.toNat_natCast,Yla];show numB l*2^(32 - 8*(0+l.length))=_;congr 1;rw [show 32 - 8*(0+l.length)=8*(4 - l.length) by omega,Nat.pow_mul]
theorem Zcxi {a k:Nat} (ha:a<4294967296) (hk:k <= 4):numB ((be4 a).take k)=a/256^(4 - k):=by
 have e:k=0∨k=1∨k=2∨k=3∨k=4:=by omega
 rcases e with rfl | rfl | rfl | rfl | rfl<;>simp only [be4,List.take,numB,List.foldl,YP]<;>omega
theorem Zcqm {p:Pf} (h:Zp p=true):Zvz p.2.toNat ((be4 p.1.toNat).take (octs p.2))=p:=by
 obtain ⟨a,n⟩:=p;have h':right a.toNat n=true:=h;obtain ⟨h0,h32,hz⟩:=Zbso.1 h';have ho:octs n <= 4:=Zmz h;have ha:=Yda a;have hl:((be4 a.toNat).take (octs n)).length=octs n:=by rw [Yo,Zdz];omega
 have hN:pxN ((be4 a.toNat).take (octs n))=a.toNat:=by
  rw [Zcvh _ (by omega),hl,Zcxi (by omega) ho]
  have hd:256^(4 - octs n) ∣ a.toNat:=by
   have e:(256:Nat)^(4 - octs n)=2^(8*(4 - octs n)):=by rw [Nat.pow_mul]
   rw [e];exact Nat.dvd_trans (Nat.pow_dvd_pow 2 (by unfold octs;omega)) (Nat.dvd_of_mod_eq_zero hz)
  exact Nat.div_mul_cancel hd
 unfold Zvz;rw [hN,hz,Nat.sub_zero];exact Prod.ext (YWa.1 (by show (UInt32.ofNat a.toNat).toNat=a.toNat;rw [YOa];omega)) (by show ((n.toNat:Nat):Int)=n;omega)
theorem Zcbf: ∀l:List Pf,l.all Zp=true->Zbp (Zo l)=l.map fun p=>(p,true,())
 | [],_=>rfl
 | p::l,h=>by
  rw [List.all_cons,Ya] at h;obtain ⟨h1,h2⟩:=h;obtain ⟨b0,b1⟩:=Zsc h1;have hx:(ofI .u8 (IntKind.wrap .u8 p.2):UInt8).toNat=p.2.toNat:=by rw [Zms];show (UInt8.ofNat ((p.2%256).toNat)).toNat=_;rw [YP];omega
  have ho:octs p.2=oct8 p.2.toNat:=rfl;have ho4:=Zmz h1;have e:Zo (p::l)=ofI .u8 (IntKind.wrap .u8 p.2)::((be4 p.1.toNat).take (octs p.2)++Zo l):=by simp [Zo,Zdl]
  have hl:((be4 p.1.toNat).take (octs p.2)).length=octs p.2:=by rw [Yo,Zdz];omega
  rw [e,Zcgl ⟨by omega,by rw [hx,Yb,hl,ho];omega⟩,hx,← ho,List.take_left' hl,List.drop_left' hl,Zcqm h1,Zcbf l h2]
  rfl
theorem Zbxr {l:List Pf} (h:l.all Zp=true):allF (Zbp (Zo l))=(l,true):=by
 rw [Zcbf l h];unfold allF;rw [if_pos (by simp),Ywa]
 exact congrArg (fun z=>(z,true)) (List.map_id' l)
theorem Zbrz {w:List UInt8} (rest:List UInt8) (h:w.length<65536):Zib (be2 w.length++w++rest)=some (w,rest):=by
 have e:be2 w.length++w++rest=UInt8.ofNat (w.length/256)::UInt8.ofNat w.length::(w++rest):=by simp [be2]
 have en:(UInt8.ofNat (w.length/256)).toNat*256+(UInt8.ofNat w.length).toNat=w.length:=by rw [YP,YP];omega
 rw [e];simp only [Zib];rw [en,if_pos (by rw [Yb];omega),List.take_left' rfl,List.drop_left' rfl]
theorem Zdda {u:Upd} {four:Bool} (h0:(updR u four).2=0) (hm:four=false->(Zdd u).hasMaker=false):Zmo four (updR u four).1=(mkU u.1 u.2.1 (if 0<u.2.1.length then Zjz (Zdd u) else Zfe) 0,(0,0,[]),true):=by
 unfold updR at h0 ⊢;by_cases hr:(u.1.all Zp&&u.2.1.all Zp)=true
 rotate_left
 rw [if_neg hr] at h0;exact absurd (show (2:Int)=0 from h0) (by decide)
 rw [if_pos hr] at h0 ⊢;obtain ⟨r1,r2⟩:=Ybb.1 hr
 have body: ∀a,(Zep (Zo u.1) a (Zo u.2.1)).2=0->Zmo four (Zep (Zo u.1) a (Zo u.2.1)).1=(if (Zci four (decide (0<(Zo u.2.1).length)) a).2.1=3 then (Zpo,Zor (Zci four (decide (0<(Zo u.2.1).length)) a).2.2,false)
   else if (Zci four (decide (0<(Zo u.2.1).length)) a).2.1=2 then (mkU (u.1++u.2.1) [] Zfe 2,(0,0,[]),true)
    else if 0<u.2.1.length then (mkU u.1 u.2.1 (Zci four (decide (0<(Zo u.2.1).length)) a).1 (Zci four (decide (0<(Zo u.2.1).length)) a).2.1,(0,0,[]),true)
    else (mkU u.1 [] Zfe (Zci four (decide (0<(Zo u.2.1).length)) a).2.1,(0,0,[]),true)):=fun a h=>by
  unfold Zep at h ⊢;by_cases hc:4073<(Zo u.1).length+a.length+(Zo u.2.1).length;rw [if_pos hc] at h;exact absurd (show (3:Int)=0 from h) (by decide)
  ·rw [if_neg hc];unfold Zmo;simp only;rw [Zbrz _ (by omega)]
   simp only;rw [Zbrz _ (by omega)]
   simp only;rw [Zbxr r1,Zbxr r2,if_pos (⟨rfl,rfl⟩:true=true∧true=true)]
 by_cases ht:0<u.2.1.length
 ·rw [if_pos ht] at h0 ⊢;by_cases ha:Zdh (Zdd u)=true
  rotate_left
  rw [if_neg ha] at h0;exact absurd (show (2:Int)=0 from h0) (by decide)
  rw [if_pos ha] at h0 ⊢;rw [body _ h0];have hp:decide (0<(Zo u.2.1).length)=true:=by
   refine decide_eq_true ?_
   match hu:u.2.1 with
   | []=>rw [hu] at ht;simp at ht
   | p::l=>simp [Zo,Zdl]
  rw [hp];obtain ⟨r,e1,e2⟩:=Zcsu four true ha;rw [e1];simp only;rw [if_neg (by decide),if_neg (by decide),if_pos ht,if_pos ht,e2 fun h=>by rw [hm h.1] at h;exact absurd h.2.2.1 (by decide)]
  rfl
 ·rw [if_neg ht] at h0 ⊢;rw [body _ h0];have hn:u.2.1= []:=Yl (by omega)
  have ed:decide (0<(Zo ([]:List Pf)).length)=false:=rfl;have e:(Zci four false []).2.1=0:=by cases four<;>rfl
  rw [hn,ed,e];rfl
end Go.Proofs.YthhcfdpoiganhaaGreat
end
section
set_option maxRecDepth 100000
namespace Go.Proofs.YthhcfdpoiganhaaGreat
open Go.Sh
theorem Zcav {A B:Type} {f:A->B}: ∀{l:List A},(l.map f).Nodup->∀{x y:A},x∈l->y∈l->f x=f y->x=y
 | [],_,_,_,hx,_,_=>by cases hx
 | a::l,h,x,y,hx,hy,e=>by
  rw [YG,Yt] at h;rcases Yj.1 hx with hx | hx<;>rcases Yj.1 hy with hy | hy;rw [hx,hy];exact absurd (YS.2 ⟨y,hy,by rw [← hx];exact e.symm⟩) h.1
  exact absurd (YS.2 ⟨x,hx,by rw [← hy];exact e⟩) h.1
  exact Zcav h.2 hx hy e
theorem Zdcr {p:Pf} (h:Zp p=true):(Zdl p).length <= 5:=by have h1:=Zmz h;have h2:=Zbzo h;omega
theorem Zbcp {most:Nat} (hm:5 <= most): ∀(l now:List Pf),(∀p∈l,Zp p=true)->(Zo now).length <= most->
  (Zcg most l now).flatten=now++l∧∀x∈Zcg most l now,x≠[]∧(Zo x).length <= most
 | [],now,_,hn=>by
  cases now with
  | nil=>simp [Zcg]
  | cons a r=>simpa [Zcg] using hn
 | p::r,now,hr,hn=>by
  have hp:=Zdcr (hr p Yk);have hr': ∀q∈r,Zp q=true:=fun q hq=>hr q (Yi _ hq);have e1:(Zo [p]).length=(Zdl p).length:=by simp [Zo]
  simp only [Zcg];split
  ·rename_i hc;obtain ⟨q1,q2⟩:=Zbcp hm r [p] hr' (by omega)
   refine ⟨by rw [List.flatten_cons,q1];simp,fun x hx=>?_⟩
   rcases Yj.1 hx with rfl | hx;refine ⟨fun e=>?_,hn⟩;subst e;simp [Zo] at hc;omega;exact q2 x hx
  ·rename_i hc;obtain ⟨q1,q2⟩:=Zbcp hm r (now++[p]) hr' (by
    have:Zo (now++[p])=Zo now++Zdl p:=by simp [Zo]
    rw [this,Yb];omega)
   exact ⟨by rw [q1];simp,q2⟩
theorem Zbuj: ∀(n:Nat) (l:List Ch),l.length <= n->(∀g∈grpF l,∃c r,g=c::r∧(∀y∈g,y∈l∧keyA (Zs c)=keyA (Zs y)))∧((grpF l).map List.length).sum=l.length
 | _,[],_=>by rw [Zvc];simp
 | 0,_::_,h=>by simp at h
 | n+1,x::r,h=>by
  have hl:(r.filter fun y=>!Zch x y).length <= n:=by have:=YZ (fun y=>!Zch x y) r;simp only [List.length_cons] at h;omega
  obtain ⟨q1,q2⟩:=Zbuj n _ hl;rw [Zpj];refine ⟨fun g hg=>?_,?_⟩;rcases Yj.1 hg with rfl | hg;refine ⟨x,_,rfl,fun y hy=>?_⟩;rcases Yj.1 hy with rfl | hy;exact ⟨Yk,rfl⟩;rw [YC] at hy;exact ⟨Yi _ hy.1,Zbmk.1 hy.2⟩;obtain ⟨c,r',e,hy⟩:=q1 g hg;exact ⟨c,r',e,fun y h=>⟨Yi _ (YC.1 (hy y h).1).1,(hy y h).2⟩⟩
  ·rw [YG,List.sum_cons,q2,List.length_cons];have: ∀(l:List Ch) (f:Ch->Bool),(l.filter f).length+(l.filter fun y=>!f y).length=l.length:=fun l f=>by
    induction l with
    | nil=>rfl
    | cons a l ih=>
     simp only [YAa];cases f a<;>simp<;>omega
   have:=this r fun y=>Zch x y;simp only [List.length_cons];omega
theorem Zdfk {a:Za} (h:a.hasLocal=false):keyA (Zjz a)=keyA a:=by obtain ⟨origin,path,nxt,hasMed,med,hasLocal,loc,atomic,hasMaker,makerAS,maker,comms,others⟩:=a;simp only [Za.hasLocal] at h;subst h;simp only [keyA,Zjz,Za.origin,Za.path,Za.next,Za.hasMed,Za.med,Za.hasLocal,Za.loc,Za.atomic,Za.hasMaker,Za.makerAS,Za.maker,Za.comms,Za.others];cases hasMed<;>cases hasMaker<;>rfl
def Zhf (l:List Ch) (p:Pf):Option Ch:=l.find? fun c=>chP c==p
theorem Zcdr {l:List Ch} (hn:(l.map chP).Nodup) {c:Ch} (hc:c∈l):Zhf l (chP c)=some c:=by
 unfold Zhf;cases h:l.find? fun d=>chP d==chP c with
 | none=>
  rw [List.find?_eq_none] at h;exact absurd (h c hc) (by simp)
 | some d=>
  have h1:=List.find?_some h;have h2:=List.mem_of_find?_eq_some h;have:chP d=chP c:=by simpa using h1
  rw [Zcav hn h2 hc this]
def okG (l:List Ch) (u:Upd):Prop:=(∀p∈u.1,∃c,Zhf l p=some c∧isT c=false)∧∀p∈u.2.1,∃c,Zhf l p=some c∧isT c=true∧Zej (Zs c) (Zdd u)=true
def Zlj (l:List Ch) (four:Bool):List Upd:=(Zcg 4073 ((l.filter isG).map chP) []).map Zfg++(grpF (l.filter isT)).flatMap fun g=>match g with
 | []=>[]
 | c::r=>(Zcg (4073 - (Zck four (Zs c)).length) ((c::r).map chP) []).map fun x=>Zgc x c
theorem Zcjt {l:List Ch} (four:Bool) (h:l.all Zfi=true):(Zfv l four).1=(Zlj l four).map fun u=>msgU u four:=by
 unfold Zfv Zlj Zjb;rw [if_pos h];simp only [Yxa,Ywa,List.map_flatMap];have hf: ∀(f g:List Ch->List (List UInt8)) (L:List (List Ch)) (a:List (List UInt8)),f=g->a++L.flatMap f=a++L.flatMap g:=fun f g L a e=>by rw [e]
 refine hf _ _ _ _ (funext fun g=>?_);cases g with
 | nil=>rfl
 | cons c r=>simp only [grpM,Ywa];rfl
theorem Zbwa {w a t:List UInt8} (h:w.length+a.length+t.length <= 4073):(Zep w a t).2=0:=by unfold Zep;rw [if_neg (by omega)]
theorem Zbyq {A:Type} (l:List (List A)):(l.map List.length).sum=l.flatten.length:=by rw [List.length_flatten]
theorem Zcwl {l:List Ch} {four:Bool} (hn:(l.map chP).Nodup) (h:l.all Zfi=true) (hloc: ∀c∈l,(Zs c).hasLocal=false) (hmk:four=false->∀c∈l,(Zs c).hasMaker=false):
  (∀u∈Zlj l four,(updR u four).2=0∧(four=false->(Zdd u).hasMaker=false)∧okG l (mkU u.1 u.2.1 (if 0<u.2.1.length then Zjz (Zdd u) else Zfe) 0))∧
  ((Zlj l four).map fun u=>u.1.length+u.2.1.length).sum=l.length:=by
 have hr: ∀c∈l,Zp (chP c)=true∧(isT c=true->Zdh (Zs c)=true):=fun c hc=>by have h1:=Yp.1 h c hc;unfold Zfi at h1;rw [Ya] at h1;refine ⟨h1.1,fun ht=>?_⟩;have h2:=h1.2;rw [ht] at h2;simpa using h2
 have hgr: ∀p∈(l.filter isG).map chP,Zp p=true:=fun p hp=>by obtain ⟨c,hc,rfl⟩:=YS.1 hp;exact (hr c (YC.1 hc).1).1
 obtain ⟨g1,g2⟩:=Zbcp (most:=4073) (by decide) ((l.filter isG).map chP) [] hgr (by simp [Zo])
 obtain ⟨t1,t2⟩:=Zbuj _ (l.filter isT) (Yh _);have htp: ∀c r,(c::r)∈grpF (l.filter isT)->(Zcg (4073 - (Zck four (Zs c)).length) ((c::r).map chP) []).flatten=(c::r).map chP∧(Zck four (Zs c)).length <= 3500∧∀x∈Zcg (4073 - (Zck four (Zs c)).length) ((c::r).map chP) [],x≠[]∧(Zo x).length <= 4073 - (Zck four (Zs c)).length:=fun c r hg=>by
  obtain ⟨c',r',e,hy⟩:=t1 _ hg;cases e;have hc:=YC.1 (hy c Yk).1;have ha:=Zbit (four:=four) ((hr c hc.1).2 hc.2)
  obtain ⟨q1,q2⟩:=Zbcp (most:=4073 - (Zck four (Zs c)).length) (by omega) ((c::r).map chP) [] (fun p hp=>by
   obtain ⟨y,hy',rfl⟩:=YS.1 hp;exact (hr y (YC.1 (hy y hy').1).1).1) (by simp [Zo])
  exact ⟨by rw [q1];rfl,ha,q2⟩
 refine ⟨fun u hu=>?_,?_⟩
 ·unfold Zlj at hu;rcases Yw.1 hu with hu | hu
  ·obtain ⟨x,hx,rfl⟩:=YS.1 hu;obtain ⟨x1,x2⟩:=g2 x hx;have hin: ∀p∈x,∃c∈l,isG c=true∧chP c=p:=fun p hp=>by have:p∈(Zcg 4073 ((l.filter isG).map chP) []).flatten:=List.mem_flatten.2 ⟨x,hx,hp⟩;rw [g1,List.nil_append] at this;obtain ⟨c,hc,rfl⟩:=YS.1 this;exact ⟨c,(YC.1 hc).1,(YC.1 hc).2,rfl⟩
   have hxr:x.all Zp=true:=Yp.2 fun p hp=>by obtain ⟨c,hc,_,rfl⟩:=hin p hp;exact (hr c hc).1
   refine ⟨?_,fun _=>rfl,⟨fun p hp=>?_,fun p hp=>by cases hp⟩⟩
   ·unfold updR;rw [if_pos (by show (x.all Zp&&([]:List Pf).all Zp)=true;rw [hxr];rfl),if_neg (by show ¬0<([]:List Pf).length;simp)]
    exact Zbwa (by show (Zo x).length+0+(Zo []).length <= 4073;simp [Zo] at x2 ⊢;exact x2)
   obtain ⟨c,hc,hg,rfl⟩:=hin p hp;refine ⟨c,Zcdr hn hc,?_⟩;unfold isG at hg;simpa using hg
  ·obtain ⟨g,hg,hu⟩:=List.mem_flatMap.1 hu;cases g with
   | nil=>simp at hu
   | cons c r=>
    obtain ⟨p1,p2,p3⟩:=htp c r hg;obtain ⟨c',r',e,hy⟩:=t1 _ hg;cases e;obtain ⟨x,hx,rfl⟩:=YS.1 hu;obtain ⟨x1,x2⟩:=p3 x hx;have hc:=YC.1 (hy c Yk).1;have hin: ∀p∈x,∃y∈l,isT y=true∧chP y=p∧keyA (Zs c)=keyA (Zs y):=fun p hp=>by have:p∈(Zcg (4073 - (Zck four (Zs c)).length) ((c::r).map chP) []).flatten:=List.mem_flatten.2 ⟨x,hx,hp⟩;rw [p1] at this;obtain ⟨y,hyg,rfl⟩:=YS.1 this;have h1:=hy y hyg;exact ⟨y,(YC.1 h1.1).1,(YC.1 h1.1).2,rfl,h1.2⟩
    have hxr:x.all Zp=true:=Yp.2 fun p hp=>by obtain ⟨y,hy',_,rfl,_⟩:=hin p hp;exact (hr y hy').1
    have hxl:0<x.length:=List.length_pos_iff.2 x1;have hua:Zdd (Zgc x c)=Zs c:=rfl;refine ⟨?_,fun hf=>hmk hf c hc.1,⟨fun p hp=>(by cases hp),fun p hp=>?_⟩⟩
    ·unfold updR;rw [if_pos (by show (([]:List Pf).all Zp&&x.all Zp)=true;rw [hxr];rfl),if_pos (show 0<(Zgc x c).2.1.length from hxl),hua,if_pos ((hr c hc.1).2 hc.2)]
     exact Zbwa (by show (Zo []).length+(Zck four (Zs c)).length+(Zo x).length <= 4073;simp only [Zo,List.flatMap_nil,List.length_nil] at x2 ⊢;omega)
    ·have hp:p∈x:=hp;obtain ⟨y,hy',ht,rfl,hk⟩:=hin p hp;refine ⟨y,Zcdr hn hy',ht,?_⟩;rw [hua,if_pos (show 0<(Zgc x c).2.1.length from hxl)]
     show Zej (Zs y) (Zjz (Zs c))=true;rw [Zbmk,Zdfk (hloc c hc.1),hk]
 ·unfold Zlj;rw [Yxa,Ydb,Ywa,List.map_flatMap];have s1:(((Zcg 4073 ((l.filter isG).map chP) []).map ((fun u:Upd=>u.1.length+u.2.1.length) ∘ Zfg)).sum)=(l.filter isG).length:=by have:((fun u:Upd=>u.1.length+u.2.1.length) ∘ Zfg)=List.length:=funext fun x=>rfl;rw [this,Zbyq,g1,List.nil_append,Yz]
  have s2: ∀gs:List (List Ch),(∀g∈gs,g∈grpF (l.filter isT))->(gs.flatMap fun g=>List.map (fun u:Upd=>u.1.length+u.2.1.length) (match g with
    | []=>[]
    | c::r=>(Zcg (4073 - (Zck four (Zs c)).length) ((c::r).map chP) []).map fun x=>Zgc x c)).sum=(gs.map List.length).sum:=fun gs=>by
   induction gs with
   | nil=>intro _;rfl
   | cons g gs ih=>
    intro hg;rw [Y5,Ydb,ih fun g' h'=>hg g' (Yi _ h'),YG,List.sum_cons];congr 1;have h0:=hg g Yk;cases g with
    | nil=>rfl
    | cons c r=>
     obtain ⟨p1,_,_⟩:=htp c r h0;simp only [Ywa];have:((fun u:Upd=>u.1.length+u.2.1.length) ∘ fun x=>Zgc x c)=List.length:=funext fun x=>by show 0+x.length=x.length;omega
     rw [this,Zbyq,p1,Yz]
  rw [s1,s2 _ fun g h=>h,t2];have: ∀l:List Ch,(l.filter isG).length+(l.filter isT).length=l.length:=fun l=>by
   induction l with
   | nil=>rfl
   | cons a l ih=>
    rw [YAa,YAa];have e:isG a= !isT a:=rfl;rw [e];cases isT a<;>simp<;>omega
  exact this l
end Go.Proofs.YthhcfdpoiganhaaGreat
end
section
set_option maxRecDepth 100000
namespace Go.Proofs.YthhcfdpoiganhaaGreat
open Go.Sh
theorem Zbbm (x y:UInt8):Zbz .i64 (IntKind.wrap .i64 ((IntKind.wrap .i64 (x.toNat:Int))*256)) (IntKind.wrap .i64 (y.toNat:Int))=((x.toNat*256+y.toNat:Nat):Int):=by have hx:=YD x;have hy:=YD y;rw [Zjp x.toNat (by omega),Zjp y.toNat (by omega),show (x.toNat:Int)*256=((x.toNat*256:Nat):Int) by omega,Zjp _ (by omega),Zix .i64 _ _ (Zmu (by omega)) (Zmu (by omega)),Ztk _ _ (by omega),Zjp _ (by omega)]
theorem Zcwz (n:Nat) (K:Bool->Prop) (h1:23 <= n) (h2:n <= 4096) (h:K true):Zmr 2 (n:Int) K:=by
 unfold Zmr Zpb;refine fun _=>ifF rfl (ifT rfl fun _=>ifT rfl (ifT (decide_eq_true (by omega)) (of_eq h ?_)))
 rw [decide_eq_true (by omega)]
theorem Zdok (hi lo:UInt8) (K:(Int×Int×List UInt8)->Bool->Prop) (h1:23 <= hi.toNat*256+lo.toNat) (h2:hi.toNat*256+lo.toNat <= 4096) (h:K (0,0,[]) true):Zxz (List.replicate 16 255++[hi,lo,2]) K:=by
 unfold Zxz Zpn;refine fun _ _=>⟨by decide,AtN.of rfl fun _=>⟨by decide,by decide,AtN.of rfl fun _=>⟨by decide,AtN.of rfl fun _=>⟨by decide,by simp,fun _=>?_⟩⟩⟩⟩
 unfold Zbjq;rw [Zbbm];refine fun _=>ifF (by rfl) (ifF (decide_eq_false (by omega)) ?_)
 rw [decide_eq_false (by omega)]
 unfold Zbor;rw [Zbbm];have e2:IntKind.wrap .i64 ((2:UInt8).toNat:Int)=2:=by decide
 rw [e2];refine ifF rfl fun _=>?_;unfold Zpb;exact ifF rfl (ifT rfl fun _=>ifF rfl fun _=>Zcwz _ _ h1 h2 fun _=>ifT rfl h)
theorem Zdhw (body:List UInt8) (K:List UInt8->Bool->Bool->List (Int×List UInt8)->(Int×Int×List UInt8)->Bool->Prop) (h1:4 <= body.length) (h2:body.length <= 4077) (h:K [] true false [(2,body)] (0,0,[]) true):Ztl [] true false (msgB body) K:=by
 have eb:msgB body=List.replicate 16 255++(UInt8.ofNat ((19+body.length)/256)::UInt8.ofNat (19+body.length)::2::body):=by unfold msgB;rw [if_pos ⟨h1,h2⟩];rfl
 have eN:(UInt8.ofNat ((19+body.length)/256)).toNat*256+(UInt8.ofNat (19+body.length)).toNat=19+body.length:=by simp only [YP];omega
 rw [eb];generalize UInt8.ofNat ((19+body.length)/256)=hi at*;generalize UInt8.ofNat (19+body.length)=lo at*;have hlen:(List.replicate 16 (255:UInt8)++(hi::lo::2::body)).length=19+body.length:=by simp;omega
 have t19:(List.replicate 16 (255:UInt8)++(hi::lo::2::body)).take 19=List.replicate 16 255++[hi,lo,2]:=rfl;have d19:(List.replicate 16 (255:UInt8)++(hi::lo::2::body)).drop 19=body:=rfl;have g16:(List.replicate 16 (255:UInt8)++(hi::lo::2::body))[16]? =some hi:=rfl;have g17:(List.replicate 16 (255:UInt8)++(hi::lo::2::body))[17]? =some lo:=rfl;have g18:(List.replicate 16 (255:UInt8)++(hi::lo::2::body))[18]? =some 2:=rfl;generalize List.replicate 16 (255:UInt8)++(hi::lo::2::body)=b at*;unfold Ztl;refine ifF rfl ?_;unfold Zbos;refine ifF rfl fun _=>Zus _ _ (by simp) (by simp;omega) fun _=>?_
 have ef:([[],b]:List (List UInt8)).flatten=b:=by simp
 rw [ef];refine ⟨fun k x=>(k=1∧x=([],b,true,false,0,0,[],()))∨(k=0∧x=([(2,body)],[],true,false,0,0,[],())),1,.inl ⟨rfl,rfl⟩,?_⟩;rintro k x (⟨rfl,rfl⟩ | ⟨rfl,rfl⟩)
 ·intro _;dsimp only [Zbnl];refine ifT (decide_eq_true (by omega)) ⟨by decide,by omega,fun _=>?_⟩
  rw [t19];refine Zdok hi lo _ (by omega) (by omega) fun _=>ifF rfl ⟨by decide,AtN.of g16 fun _=>⟨by decide,by decide,AtN.of g17 fun _=>?_⟩⟩
  rw [Zbbm,eN];refine ifF (decide_eq_false (by omega)) ⟨by decide,AtN.of g18 fun _=>⟨by omega,by omega,by decide,by omega,?_⟩⟩
  have en:(((19+body.length:Nat):Int).toNat)=19+body.length:=by omega
  have e3:(b.take (19+body.length)).drop 19=body:=by rw [YX (by omega),d19]
  have e4:b.drop (19+body.length)= []:=YCa (by omega)
  rw [en,e3];have one: ∀z,z=body->Zbef b true false hi lo 2 (fun x'=>∃k',k'<1∧((k'=1∧x'=([],b,true,false,0,0,[],()))∨(k'=0∧x'=([(2,body)],[],true,false,0,0,[],())))) 0 0 [] [] z K:=by
   rintro z rfl;unfold Zbef;rw [Zbbm,eN,en,e4];refine ⟨by omega,by omega,?_⟩
   unfold Zbli;exact ifF rfl ⟨by simp,0,by omega,.inr ⟨rfl,rfl⟩⟩
  exact ⟨fun _=>Zbpj body _ (by omega) fun _=>one _ rfl,fun _=>Zbpj body _ (by omega) fun _=>one _ rfl⟩
 intro _;dsimp only [Zbnl];refine ifF rfl ?_;unfold Zbqd;exact h
theorem Zbvl {pre:List Ch} {p:Pf} (h: ∀c∈pre,chP c≠p) (r:List Ch):Zhf (pre++r) p=Zhf r p:=by
 unfold Zhf;rw [List.find?_append];have:pre.find? (fun c=>chP c==p)=none:=List.find?_eq_none.2 fun c hc=>by have:=h c hc;simpa using this
 rw [this];rfl
theorem Zdfc (x y:UInt32):(((x.toNat:Int))==(y.toNat:Int))=(x==y):=by
 by_cases e:x=y;subst e;simp
 ·rw [show (x==y)=false from by simpa using e]
  refine beq_eq_false_iff_ne.2 fun h=>e (YWa.1 (by omega))
theorem Zciv (c:Ch) (p:Pf):(((c.1.toNat:Int)==(p.1.toNat:Int))&&(((c.2.1:Int)==p.2)&&true))=(chP c==p):=by rw [Zdfc];obtain ⟨a,b⟩:=p;show (c.1==a&&(c.2.1==b&&true))=((c.1,c.2.1)==(a,b));rw [Ygb];rfl
theorem Zcdd (l:List Ch) (p:Pf) (K:Ch->Bool->Prop) (hl:l.length <= 1000000) (h:match Zhf l p with
  | some c=>K c true
  | none=>∀c,K c false):Zrp l p K:=by
 unfold Zrp;refine Zl.over l (fun pre=>((pre.length:Int),(0:Int),(0:Int),(0:Int),[],(0:Int),false,(0:Int),false,(0:Int),false,false,(0:Int),(0:Int),[],[],false,())) (fun pre=>∀c∈pre,chP c≠p) rfl (fun c hc=>by cases hc) (fun pre s post hp hn hP next hx=>?_) (fun hP next=>?_)
 ·intro _;dsimp only [Zbon];simp only [Zdc];refine ifT (decide_eq_true (by omega)) ⟨by omega,AtN.of (Zbe hp) fun _=>?_⟩
  rw [Zciv];refine IfB.intro (fun g=>⟨by omega,AtN.of (Zbe hp) fun _=>?_⟩) fun g=>of_eq (hx ?_) ?_
  ·have e:Zhf l p=some s:=by rw [hp,Zbvl hP];unfold Zhf;rw [List.find?_cons_of_pos (by simpa using g)]
   rw [e] at h;exact h
  intro c hc;rcases Yw.1 hc with hc | hc;exact hP c hc;rw [YB] at hc;subst hc;simpa using g
  ·rw [Zh (by omega) (by omega)];simp
 ·intro _;dsimp only [Zbon];simp only [Zdc];refine ifF (decide_eq_false (by omega)) ?_
  have e:Zhf l p=none:=by have:=Zbvl hP [];rw [Yv] at this;rw [this];rfl
  rw [e] at h;exact h _
end Go.Proofs.YthhcfdpoiganhaaGreat
end
section
set_option maxRecDepth 100000
namespace Go.Proofs.YthhcfdpoiganhaaGreat
open Go.Sh
def fixC (four:Bool) (c:Ch):Ch:=(c.1,c.2.1,c.2.2.1,c.2.2.2.1,c.2.2.2.2.1,c.2.2.2.2.2.1,c.2.2.2.2.2.2.1,false,c.2.2.2.2.2.2.2.2.1,c.2.2.2.2.2.2.2.2.2.1,(c.2.2.2.2.2.2.2.2.2.2.1&&four),c.2.2.2.2.2.2.2.2.2.2.2.1,c.2.2.2.2.2.2.2.2.2.2.2.2.1,c.2.2.2.2.2.2.2.2.2.2.2.2.2.1,c.2.2.2.2.2.2.2.2.2.2.2.2.2.2.1,c.2.2.2.2.2.2.2.2.2.2.2.2.2.2.2)
structure GoodC (c:Ch):Prop where
 fit:FitA (Zs c)
 seg: ∀s∈(Zs c).path,s.2.length <= 9223372036854775807
 com:(Zs c).comms.length <= 9223372036854775807
theorem GoodC.any {c d:Ch} (h:GoodC c) (h1:(Zs d).path=(Zs c).path) (h2:(Zs d).comms=(Zs c).comms) (h3:(Zs d).others=(Zs c).others):GoodC d:=
 ⟨⟨by rw [h1];exact h.fit.p1,by rw [h1];exact h.fit.p2,by rw [h1];exact h.fit.p3,by rw [h3];exact h.fit.o1⟩,by rw [h1];exact h.seg,by rw [h2];exact h.com⟩
structure LeftC (four:Bool) (left:List Ch):Prop where
 nod:(left.map chP).Nodup
 good: ∀c∈left,GoodC c∧(Zs c).hasLocal=false∧(four=false->(Zs c).hasMaker=false)
def Inv6 (four:Bool) (n:Nat) (k:Nat) (x:List Ch×List Ch×Int×Unit):Prop:=∃(l0 left:List Ch) (i:Nat),x=(l0,left,(i:Int),())∧k=n - i∧i <= n∧l0.length=n∧(∀c∈l0,GoodC c)∧left.length <= i∧LeftC four left
theorem j1_c {four:Bool} {n i:Nat} {left l0:List Ch} {c:Ch} {K:Bool->Prop} (hi:i<n) (hn:n <= 1000) (hl:l0.length=n) (hall: ∀c∈l0,GoodC c) (hget:l0[i]? =some (fixC four c)) (hll:left.length <= i) (hL:LeftC four left):
  Zya four left (i:Int) (left.any fun d=>chP d==chP c) (fun x'=>∃k',k'<n - i∧Inv6 four n k' x') l0 K:=by
 have hg:GoodC (fixC four c):=hall _ (Yva hget);have e1:IntKind.wrap .i64 ((i:Int)+1)=((i+1:Nat):Int):=by rw [Zh (by omega) (by omega)];omega
 unfold Zya;refine IfB.intro (fun h1=>⟨by omega,by omega,AtN.of hget fun _=>⟨by simp;omega,?_⟩⟩) fun h1=>?_
 ·simp only [Zdc];unfold Zbgk;rw [e1];refine ⟨n - (i+1),by omega,l0,left++[fixC four c],i+1,rfl,rfl,by omega,hl,hall,by simp;omega,?_,fun d hd=>?_⟩
  ·have hne: ∀d∈left,¬chP d=chP c:=fun d hd e=>by
    have:(left.any fun d=>chP d==chP c)=true:=YNa.2 ⟨d,hd,by simpa using e⟩
    rw [this] at h1;cases h1
   rw [Yxa,YO];refine ⟨hL.nod,by simp,fun a ha b hb=>?_⟩
   obtain ⟨d,hd,rfl⟩:=YS.1 ha;have hb:b=chP (fixC four c):=by simpa using hb
   rw [hb];exact hne d hd
  rcases Yw.1 hd with hd | hd;exact hL.good d hd;rw [YB] at hd;subst hd;refine ⟨hg,rfl,fun h=>?_⟩;subst h;show (c.2.2.2.2.2.2.2.2.2.2.1&&false)=false;simp
 unfold Zbgk;rw [e1];exact ⟨n - (i+1),by omega,l0,left,i+1,rfl,rfl,by omega,hl,hall,by omega,hL⟩
theorem Zdpi {u:Upd} {four:Bool} (h:(updR u four).2=0):4 <= (updR u four).1.length:=by
 have hb: ∀w a t,(Zep w a t).2=0->4 <= (Zep w a t).1.length:=fun w a t h=>by unfold Zep at h ⊢;split at h;simp at h;rename_i hc;rw [if_neg hc];simp only [Yb,Zoc];omega
 unfold updR at h ⊢;split at h;rename_i h1;rw [if_pos h1];split at h;rename_i h2;rw [if_pos h2];split at h;rename_i h3;rw [if_pos h3];exact hb _ _ _ h;simp at h;rename_i h2;rw [if_neg h2];exact hb _ _ _ h;simp at h
theorem Zdnm {four:Bool} {left:List Ch} {ms:List (List UInt8)} {n i:Nat} {u:Upd} {next:(Int×Int×List UInt8×Bool×Bool×Unit)->Prop} (hL:LeftC four left) (hll:left.length <= 1000) (hn:n <= 1000000) (hi:i+1 <= 9223372036854775807) (hu:u.1.length+u.2.1.length <= 100000)
  {A:Za} {f:Int} (hok:okG left (mkU u.1 u.2.1 A f)) (hx:next (((n+(u.1.length+u.2.1.length):Nat):Int),((i+1:Nat):Int),[],true,false,())):
  Zl (Int×Int×Unit) ((n:Int),(0:Int),()) fun y next31=>WfY Zbqu.kinds y->Zzq four left ms [] true false (i:Int) (mkU u.1 u.2.1 A f) next y.1 y.2.1 next31 fun r=>r=true:=by
 refine Zl.over u.1 (fun pre=>(((n+pre.length:Nat):Int),(pre.length:Int),())) (fun _=>True) rfl trivial (fun pre p post hp hn' _ nx hnx=>?_) (fun _ nx=>?_)
 ·intro _;dsimp only [Zzq];simp only [Zdc];have hp':(mkU u.1 u.2.1 A f).1=pre++p::post:=hp;refine ifT (decide_eq_true (by show ((pre.length:Nat):Int)<(u.1.length:Int);omega)) ⟨by omega,AtN.of (Zbe hp') fun _=>fun _=>Zcdd left p _ (by omega) ?_⟩
  obtain ⟨c,h1,h2⟩:=hok.1 p (by show p∈u.1;rw [hp];simp)
  rw [h1];refine fun _=>ifF rfl ?_;unfold Zbrd;refine ifF h2 (of_eq (hnx trivial) ?_);rw [Zh (by omega) (by omega),Zh (by omega) (by omega),Yb,List.length_singleton]
  simp;omega
 ·intro _;dsimp only [Zzq];refine ifF (decide_eq_false (by show ¬((u.1.length:Nat):Int)<(u.1.length:Int);omega)) ?_
  refine Zl.over u.2.1 (fun pre=>(((n+u.1.length+pre.length:Nat):Int),(pre.length:Int),())) (fun _=>True) rfl trivial (fun pre p post hp hn' _ nx hnx=>?_) (fun _ nx=>?_)
  ·intro _;dsimp only [Zbjv];simp only [Zdc];have hp':(mkU u.1 u.2.1 A f).2.1=pre++p::post:=hp;refine ifT (decide_eq_true (by show ((pre.length:Nat):Int)<(u.2.1.length:Int);omega)) ⟨by omega,AtN.of (Zbe hp') fun _=>fun _=>Zcdd left p _ (by omega) ?_⟩
   obtain ⟨c,h1,h2,h3⟩:=hok.2 p (by show p∈u.2.1;rw [hp];simp)
   rw [h1];have hc:c∈left:=List.mem_of_find?_eq_some h1;obtain ⟨hg,_,_⟩:=hL.good c hc;refine fun _=>ifF rfl (ifF (by have:isT c=true:=h2;unfold isT at this;rw [this];rfl) fun _=>?_)
   refine Zcyf (Zs c) (Zdd (mkU u.1 u.2.1 A f)) _ hg.fit.p1 hg.seg hg.com hg.fit.o1 fun _=>?_;unfold Zzp;refine ifF (by rw [h3];rfl) (of_eq (hnx trivial) ?_)
   rw [Zh (by omega) (by omega),Zh (by omega) (by omega),Yb,List.length_singleton]
   simp;omega
  ·intro _;dsimp only [Zbjv];refine ifF (decide_eq_false (by show ¬((u.2.1.length:Nat):Int)<(u.2.1.length:Int);omega)) (of_eq hx ?_)
   rw [Zh (by omega) (by omega)]
   simp;omega
theorem Zcon (l:List Ch) (four:Bool) (hl:l.length <= 9223372036854775807) (hs: ∀c∈l,SzC c):Zbmi l four fun r=>r=true:=by
 unfold Zbmi;refine fun _=>Zcyr _ fun _=>ifF rfl fun _=>Zcyy l 40 _ (by decide) hl hs fun _=>?_
 have hlen:((l.take 40).map fewC).length <= 40:=by rw [Yz,Yo];omega
 have hgood: ∀c∈(l.take 40).map fewC,GoodC c:=fun c hc=>by obtain ⟨d,hd,rfl⟩:=YS.1 hc;obtain ⟨h1,h2,h3⟩:=Zdpl (hs d (YHa hd));exact ⟨h1,h2,h3⟩
 generalize hL0:(l.take 40).map fewC=L0 at*;refine ⟨Inv6 four L0.length,L0.length,⟨L0,[],0,rfl,rfl,YI _,rfl,hgood,Yh _,by simp,fun c hc=>by cases hc⟩,?_⟩
 rintro k x ⟨l0,left,i,rfl,rfl,hi,hl0,hall,hll,hL⟩;intro _;dsimp only [Zckm];refine IfB.intro (fun h1=>?_) fun h1=>?_
 ·have h1:i<L0.length:=by have:=of_decide_eq_true h1;omega
  obtain ⟨c,hc⟩: ∃c,l0[i]? =some c:=⟨_,Yc (by omega)⟩
  refine ⟨fun k x=>∃kk:Nat,x=(l0,(left.take kk).any (fun d=>chP d==chP c),(kk:Int),())∧k=left.length - kk∧kk <= left.length,left.length,⟨0,by simp,rfl,YI _⟩,?_⟩
  rintro k x ⟨kk,rfl,rfl,hkk⟩;intro _;dsimp only [Zcjw];simp only [Zdc];refine IfB.intro (fun h2=>?_) fun h2=>?_
  ·have h2:kk<left.length:=by have:=of_decide_eq_true h2;omega
   have step: ∀b:Bool,b=(left.take (kk+1)).any (fun d=>chP d==chP c)->Zbcb l0 four left (i:Int) (kk:Int) (fun x'=>∃k',k'<L0.length - i∧Inv6 four L0.length k' x') (fun x'=>∃k',k'<left.length - kk∧∃kk:Nat,x'=(l0,(left.take kk).any (fun d=>chP d==chP c),(kk:Int),())∧k'=left.length - kk∧kk <= left.length) b fun r=>r=true:=by
    rintro b rfl;unfold Zbcb;refine ⟨left.length - (kk+1),by omega,kk+1,?_,rfl,by omega⟩
    rw [Zh (by omega) (by omega)]
    simp
   have et:(left.take (kk+1)).any (fun d=>chP d==chP c)=((left.take kk).any (fun d=>chP d==chP c)||(chP left[kk]==chP c)):=by rw [List.take_succ_eq_append_getElem h2,YZa];simp
   refine IfB.intro (fun h3=>step _ (by rw [et,h3];rfl)) fun h3=>⟨by omega,by omega,AtN.of (Yc h2) fun _=>⟨by omega,by omega,AtN.of hc fun _=>step _ ?_⟩⟩
   rw [et,h3,Yba];exact Zciv left[kk] (chP c)
  ·have h2:kk=left.length:=by have:=of_decide_eq_false h2;omega
   subst h2;rw [Yra];have hcG:GoodC c:=hall c (Yva hc);have hs1: ∀d:Ch,(l0.set i d)[i]? =some d:=fun d=>List.getElem?_set_self (by omega)
   have hs2: ∀d e:Ch,((l0.set i d).set i e)[i]? =some e:=fun d e=>List.getElem?_set_self (by rw [Yna];omega)
   have hs3: ∀d e:Ch,((l0.set i d).set i e).length=L0.length:=fun d e=>by rw [Yna,Yna,hl0]
   have hs4: ∀d e:Ch,GoodC d->GoodC e->∀z∈(l0.set i d).set i e,GoodC z:=fun d e hd he z hz=>by rcases List.mem_or_eq_of_mem_set hz with hz | rfl;rcases List.mem_or_eq_of_mem_set hz with hz | rfl;exact hall z hz;exact hd;exact he
   refine ⟨by omega,by omega,AtN.of hc fun _=>IfB.intro (fun h4=>?_) fun h4=>?_⟩
   ·refine ⟨by omega,by omega,AtN.of hc fun _=>⟨by omega,by rw [Yna];omega,AtN.of (hs1 _) fun _=>?_⟩⟩
    refine j1_c (c:=c) h1 (by omega) (hs3 _ _) (hs4 _ _ (hcG.any rfl rfl rfl) (hcG.any rfl rfl rfl)) ((hs2 _ _).trans ?_) hll hL
    unfold fixC;rw [h4];rfl
   ·refine ⟨by omega,by omega,AtN.of hc fun _=>⟨by omega,by rw [Yna];omega,AtN.of (hs1 _) fun _=>?_⟩⟩
    refine j1_c (c:=c) h1 (by omega) (hs3 _ _) (hs4 _ _ (hcG.any rfl rfl rfl) (hcG.any rfl rfl rfl)) ((hs2 _ _).trans ?_) hll hL
    unfold fixC;rw [h4];rfl
 ·refine fun _=>Zcag left four _ (by omega) (fun c hc=>(hL.good c hc).1.fit) fun hwp=>?_
  have hml2:(Zfv left four).1.length <= 9223372036854775807:=hwp.1.1;by_cases hr:left.all Zfi=true
  rotate_left
  ·have e:Zfv left four=([],2):=by unfold Zfv;rw [if_neg hr]
   rw [e];exact ifT rfl rfl
  have e2:(Zfv left four).2=0:=by unfold Zfv;rw [if_pos hr]
  rw [Zcjt four hr,Yz] at hml2;clear hwp;rw [e2,Zcjt four hr];refine ifF rfl ?_;obtain ⟨hu,hsum⟩:=Zcwl (four:=four) hL.nod hr (fun c hc=>(hL.good c hc).2.1) (fun hf c hc=>(hL.good c hc).2.2 hf);generalize Zlj left four=us at*;have part: ∀i,i<us.length->((us.take (i+1)).map fun u=>u.1.length+u.2.1.length).sum=((us.take i).map fun u=>u.1.length+u.2.1.length).sum+(us[i]!.1.length+us[i]!.2.1.length):=fun i hi=>by rw [List.take_succ_eq_append_getElem hi,Yxa,Ydb];simp [getElem!_pos us i hi]
  have le: ∀i,((us.take i).map fun u=>u.1.length+u.2.1.length).sum <= left.length:=fun i=>by
   have h1:((us.take i).map fun u=>u.1.length+u.2.1.length).sum+((us.drop i).map fun u=>u.1.length+u.2.1.length).sum=left.length:=by rw [← Ydb,← Yxa,Y4];exact hsum
   omega
  have usl:us.length <= 9223372036854775807∨True:= .inr trivial;refine ⟨fun k x=>∃i:Nat,x=(((((us.take i).map fun u=>u.1.length+u.2.1.length).sum:Nat):Int),(i:Int),[],true,false,())∧k=us.length - i∧i <= us.length,us.length,⟨0,rfl,rfl,YI _⟩,?_⟩;rintro k x ⟨i,rfl,rfl,hi⟩;intro _;dsimp only [Zckk];have hml:(us.map fun u=>msgU u four).length=us.length:=Yz _;refine IfB.intro (fun h2=>?_) fun h2=>?_
  ·have h2:i<us.length:=by have:=of_decide_eq_true h2;rw [hml] at this;omega
   have hget:(us.map fun u=>msgU u four)[i]? =some (msgU us[i] four):=by rw [Yaa,Yc h2];rfl
   obtain ⟨q1,q2,q3⟩:=hu us[i] (Yza h2);have l4:=Zdpi q1;have l5:=Zbnr us[i] four;have lp:=part i h2;rw [getElem!_pos us i h2] at lp;have ll:=le (i+1);refine ⟨by omega,by rw [hml];omega,AtN.of hget fun _=>fun _ _=>Zdhw (updR us[i] four).1 _ l4 l5 fun _ _=>ifF rfl (ifF rfl ⟨by decide,by simp,AtN.of rfl fun _=>?_⟩)⟩
   unfold Zyr;refine ifF rfl ⟨by decide,by simp,AtN.of rfl fun _=>fun _=>Zdot (updR us[i] four).1 four _ (by omega) ?_⟩
   rw [Zdda q1 q2];refine fun _=>ifF rfl (Zdnm (u:=us[i]) hL (by omega) (by omega) ?_ (by omega) q3 ?_)
   omega
   ·refine ⟨us.length - (i+1),by omega,i+1,?_,rfl,by omega⟩
    rw [lp]
  ·have h2:i=us.length:=by have:=of_decide_eq_false h2;rw [hml] at this;omega
   subst h2;rw [Yra,hsum];simp
end Go.Proofs.YthhcfdpoiganhaaGreat
end
