/-
  Layers 01 and 11 over the heap:sums as they are,numbers of two and of four bytes.
-/
import Derived.Test.YtaljkjokbdpdoaaGreatCB
import Derived.Test.YtaljkjokbdpdoaaGreatCP
import Derived.Test.YtaljkjokbdpdoaaGreatEC
import Derived.Test.YtaljkjokbdpdoaaGreatBC
import Derived.Test.YtaljkjokbdpdoaaGreatBA
set_option linter.all false
section
set_option maxRecDepth 100000
namespace Go.Proofs.YtaljkjokbdpdoaaGreat
open Go.Sh Go.Pc Go.Conn
section
variable {H:Heap}
theorem Zbaq {n:Nat} (hn:n<4294967296):FnW Tryz.prog Zdf ⟨[.int .u32 n]⟩ H fun v H'=>v= .int .u32 (rnd n:Nat)∧H'=H:=by
  refine Zbph n ?_;unfold Zbcj;refine Zbo (fun k s H'=>s=((k:Int),())∧k<4294967296∧rnd k=rnd n∧H'=H) n ⟨rfl,hn,rfl,rfl⟩ ?_;rintro k s H' ⟨rfl,hk,er,e⟩ g;rw [e];unfold Zbci;refine IfB.intro (fun h=>⟨by decide,?_⟩) fun h H2 hs=>⟨?_,(Zf hs).symm⟩
  . have h:=of_decide_eq_true h;simp only at h;have e1:Int.fdiv (k:Int) (2^(min (16:Int).toNat (IntKind.bits .u32)))=((k/65536:Nat):Int):=by
      show Int.fdiv (k:Int) 65536=_;rw [Int.fdiv_eq_ediv_of_nonneg _ (by decide)];rfl
    simp only [Zoc k hk];rw [e1,w32];refine ⟨k%65536+k/65536,by omega,?_,by omega,by rw [Zbzz];exact er,trivial⟩
    have:((((k%65536:Nat):Int))+((k/65536:Nat):Int))%4294967296=((k%65536+k/65536:Nat):Int):=by omega
    rw [this]
  have h:=of_decide_eq_false h;simp only at h;rw [← er,Zbib (by omega)]
theorem Zhg {n:Nat} {z:Int} (e:IntKind.wrap .u32 z=(n:Int)) (hn:n<4294967296):FnW Tryz.prog Zdf ⟨[.int .u32 (IntKind.wrap .u32 z)]⟩ H fun v H'=>v= .int .u32 (rnd n:Nat)∧H'=H:=by rw [e];exact Zbaq hn
theorem Zyq (x:Nat):Int.fdiv (x:Int) (2^(min (16:Int).toNat (IntKind.bits .u32)))=((x/65536:Nat):Int):=by
  show Int.fdiv (x:Int) 65536=_;rw [Int.fdiv_eq_ediv_of_nonneg _ (by decide)];rfl
theorem Zbtj (a:Nat) (ha:a<4294967296):Zbc .i64 (a:Int) 65535=((a%65536:Nat):Int):=by
  unfold Zbc;have h1:(BitVec.ofInt (IntKind.bits .i64) (a:Int)).toNat=a:=by show (BitVec.ofInt 64 (a:Int)).toNat=a;rw [BitVec.toNat_ofInt];omega
  have h2:(BitVec.ofInt (IntKind.bits .i64) 65535).toNat=65535:=by decide
  rw [BitVec.toNat_and,h1,h2];have:a&&& 65535=a%65536:=Nat.and_two_pow_sub_one_eq_mod a 16;rw [this,Zi (by omega) (by omega)]
theorem Zbyd {x y n:Nat} (hx:x<4294967296) (hy:y<4294967296) (hn:n<4294967296):FnW Tryz.prog Zpy ⟨[.int .u32 x,.int .u32 y,.int .u8 6,.int .i64 n]⟩ H fun v H'=>v= .int .u32 (Zhe x y n:Nat)∧Keep Nil H H':=by
  refine Zbrb x y 6 n ?_;unfold Zbcs;refine ⟨by decide,by decide,newB fun q H0 hq b0 k0=>?_⟩
  refine stL b0 (by simp) rfl fun H1 b1 k1=>stL b1 (by simp) rfl fun H2 b2 k2=>stL b2 (by simp) rfl fun H3 b3 k3=>stL b3 (by simp) rfl fun H4 b4 k4=>stL b4 (by simp) rfl fun H5 b5 k5=>stL b5 (by simp) rfl fun H6 b6 k6=>?_
  have kk:Keep Nil H H6:=k0.then (((((k1.trans k2).trans k3).trans k4).trans k5).trans k6) fun y hy=> .inr (hy▸hq);rw [Zyq,Zyq,Zoc x hx,Zoc y hy,Zbtj n hn] at b6;refine ⟨_,cellL b6 0 rfl,_,cellL b6 1 rfl,_,cellL b6 2 rfl,_,cellL b6 3 rfl,_,cellL b6 4 rfl,_,cellL b6 5 rfl,?_⟩;have r0:=Zmw;refine ifT rfl ⟨by decide,by decide,(Zhg (n:=0+x/65536) (by rw [w32];omega) (by omega)).mono ?_⟩
  rintro _ _ ⟨rfl,e⟩;rw [e];have q0:=r0 (0+x/65536);refine ⟨_,rfl,ifT rfl ⟨by decide,by decide,(Zhg (n:=rnd (0+x/65536)+x%65536) (by rw [w32];omega) (by omega)).mono ?_⟩⟩
  rintro _ _ ⟨rfl,e⟩;rw [e];have q1:=r0 (rnd (0+x/65536)+x%65536);generalize e1:rnd (rnd (0+x/65536)+x%65536)=m1 at*;refine ⟨_,rfl,ifT rfl ⟨by decide,by decide,(Zhg (n:=m1+y/65536) (by rw [w32];omega) (by omega)).mono ?_⟩⟩
  rintro _ _ ⟨rfl,e⟩;rw [e];have q2:=r0 (m1+y/65536);generalize e2:rnd (m1+y/65536)=m2 at*;refine ⟨_,rfl,ifT rfl ⟨by decide,by decide,(Zhg (n:=m2+y%65536) (by rw [w32];omega) (by omega)).mono ?_⟩⟩
  rintro _ _ ⟨rfl,e⟩;rw [e];have q3:=r0 (m2+y%65536);generalize e3:rnd (m2+y%65536)=m3 at*;refine ⟨_,rfl,ifT rfl ⟨by decide,by decide,(Zhg (n:=m3+6) (by rw [w32,w32];omega) (by omega)).mono ?_⟩⟩
  rintro _ _ ⟨rfl,e⟩;rw [e];have q4:=r0 (m3+6);generalize e4:rnd (m3+6)=m4 at*;refine ⟨_,rfl,ifT rfl ⟨by decide,by decide,(Zhg (n:=m4+n%65536) (by rw [w32,w32];omega) (by omega)).mono ?_⟩⟩
  rintro _ _ ⟨rfl,e⟩;rw [e];refine ⟨_,rfl,ifF rfl fun H7 hs=>⟨?_,Zk kk hs⟩⟩;unfold Zhe;rw [← e4,Zip,← e3,Nat.add_assoc,Zip,← e2,Nat.add_assoc,Zip,← e1,Nat.add_assoc,Zip,Nat.add_assoc,Zip];congr 3;omega
theorem Zzi {x:Int} (h:isB x):IntKind.wrap .u32 x=x:=by unfold isB at h;rw [w32];omega
theorem Zbst {p n c:Nat} {a:Option Addr} {l:List Int} (hp:p<4294967296) (hr:Reads H a n (bv l)) (hl:AllB l) (hn:n <= 1000000):FnW Tryz.prog Zol ⟨[.int .u32 p,.slice a n c]⟩ H fun v H'=>v= .int .u32 (addB p l:Nat)∧H'=H:=by
  have hln:l.length=n:=by have:=hr.len;simpa using this
  refine Zbit p a n c ?_;unfold Zbbd;refine (Zbaq hp).mono ?_;rintro _ _ ⟨rfl,e⟩;rw [e];refine ⟨_,rfl,by decide,Zbo (fun k s H'=>H'=H∧∃i:Nat,s=(((rnd (p+sumL (l.take (2*i))):Nat):Int),((i:Int),()))∧k=n - i∧i <= n/2) n ⟨rfl,0,by simp [sumL],rfl,Nat.zero_le _⟩ ?_⟩
  rintro k s H' ⟨e,i,rfl,rfl,hi⟩ g;rw [e];clear e H';have htd:IntKind.wrap .i64 (Int.tdiv (n:Int) 2)=((n/2:Nat):Int):=by rw [Int.tdiv_eq_ediv_of_nonneg (by omega),Zi (by omega) (by omega)];omega
  have htm:Int.tmod (n:Int) 2=((n%2:Nat):Int):=by rw [Int.tmod_eq_emod_of_nonneg (by omega)];omega
  have hm:=Zmw (p+sumL (l.take (2*i)));unfold Zbbc;rw [htd,htm];refine IfB.intro (fun h=>?_) fun h=>⟨by decide,IfB.intro (fun h2=>?_) fun h2 H2 hs=>⟨?_,(Zf hs).symm⟩⟩
  . have h:=of_decide_eq_true h;simp only at h;have w1:IntKind.wrap .i64 (2*(i:Int))=((2*i:Nat):Int):=by rw [Zi (by omega) (by omega)];omega
    have w2:IntKind.wrap .i64 (((2*i:Nat):Int)+1)=((2*i+1:Nat):Int):=by rw [Zi (by omega) (by omega)];omega
    have w3:IntKind.wrap .i64 ((i:Int)+1)=((i+1:Nat):Int):=by rw [Zi (by omega) (by omega)];omega
    simp only [w1,w2,w3];cases a with
    | none=>have:=hr.2;simp only at this;omega
    | some a=>
      have g1:=hl.get (show 2*i<l.length by omega)
      have g2:=hl.get (show 2*i+1<l.length by omega)
      refine NilP.intro _ rfl (InB.intro (2*i) rfl (by omega) (Zgn hr (by omega) fun x hx=>⟨_,hx,by decide,NilP.intro _ rfl (InB.intro (2*i+1) rfl (by omega) (Zgn hr (by omega) fun y hy=>⟨_,hy,(Zhg (n:=rnd (p+sumL (l.take (2*i)))+((l.getD (2*i) 0).toNat*256+(l.getD (2*i+1) 0).toNat)) ?_ ?_).mono ?_⟩))⟩))
      rw [Zzi g1,Zzi g2];obtain ⟨a1,a2⟩:=g1;obtain ⟨c1,c2⟩:=g2;show IntKind.wrap .u32 (IntKind.wrap .u32 (_+IntKind.wrap .u32 (l.getD (2*i) 0*256))+_)=_;rw [w32,w32,w32];omega;obtain ⟨a1,a2⟩:=g1;obtain ⟨c1,c2⟩:=g2;omega;rintro _ _ ⟨rfl,e⟩;rw [e];refine ⟨_,rfl,n - (i+1),by omega,rfl,i+1,?_,rfl,by omega⟩
      rw [Zip,Nat.add_assoc,← Zbis i l (by omega)]
  . have h:=of_decide_eq_false h;simp only at h;have h2:((n%2:Nat):Int)=1:=by simpa using h2
    have w1:IntKind.wrap .i64 ((n:Int) - 1)=((n - 1:Nat):Int):=by rw [Zi (by omega) (by omega)];omega
    rw [w1];cases a with
    | none=>have:=hr.2;simp only at this;omega
    | some a=>
      have g1:=hl.get (show n - 1<l.length by omega)
      refine NilP.intro _ rfl (InB.intro (n - 1) rfl (by omega) (Zgn hr (by omega) fun x hx=>⟨_,hx,by decide,(Zhg (n:=rnd (p+sumL (l.take (2*i)))+(l.getD (n - 1) 0).toNat*256) ?_ ?_).mono ?_⟩))
      rw [Zzi g1];obtain ⟨a1,a2⟩:=g1;show IntKind.wrap .u32 (_+IntKind.wrap .u32 (l.getD (n - 1) 0*256))=_;rw [w32,w32];omega;obtain ⟨a1,a2⟩:=g1;omega;rintro _ _ ⟨rfl,e⟩;rw [e];refine ⟨_,rfl,fun H2 hs=>⟨?_,(Zf hs).symm⟩⟩;have ei:i=n/2:=by omega
      have e2:n - 1=2*i:=by omega
      unfold addB;rw [Zip,Zbir i l (by omega),e2,Nat.add_assoc]
  . have h:=of_decide_eq_false h;simp only at h;have h2: ¬((n%2:Nat):Int)=1:=by simpa using h2
    have ei:l.length <= 2*i:=by omega
    rw [List.take_of_length_le ei];rfl
theorem Zbvb {p:Nat} (hp:p <= 65535):FnW Tryz.prog Zpz ⟨[.int .u32 p]⟩ H fun v H'=>v= .int .u16 (65535 - p:Nat)∧H'=H:=by
  refine Zbrc p ?_;unfold Zbct;refine (Zbaq (by omega)).mono ?_
  rintro _ _ ⟨rfl,e⟩;rw [e,Zbib hp];refine ⟨_,rfl,fun H2 hs=>⟨?_,(Zf hs).symm⟩⟩;have key: ∀q:Nat,q <= 65535->Zvh .u16 (if IntKind.signed .u16=true then (-1) else IntKind.max .u16) (IntKind.wrap .u16 (q:Int))=((65535 - q:Nat):Int):=by
    intro q hq;have hw:IntKind.wrap .u16 (q:Int)=(q:Int):=by show (q:Int)%65536=q;omega
    rw [hw];unfold Zvh;have h1:(BitVec.ofInt (IntKind.bits .u16) (q:Int)).toNat=q:=by show (BitVec.ofInt 16 (q:Int)).toNat=q;rw [BitVec.toNat_ofInt];omega
    have h2:(BitVec.ofInt (IntKind.bits .u16) (if IntKind.signed .u16=true then (-1) else IntKind.max .u16)).toNat=65535:=by decide
    rw [BitVec.toNat_xor,h1,h2];have h3:65535^^^q=65535 - q:=by
      have h4:=BitVec.toNat_not (x:=BitVec.ofNat 16 q);have h5:(~~~ (BitVec.ofNat 16 q)).toNat=65535^^^q:=by rw [← BitVec.allOnes_xor,BitVec.toNat_xor];show 65535^^^(BitVec.ofNat 16 q).toNat=_;rw [BitVec.toNat_ofNat,Nat.mod_eq_of_lt (by omega)]
      rw [← h5,h4,BitVec.toNat_ofNat,Nat.mod_eq_of_lt (by omega)]
    rw [h3];show ((65535 - q:Nat):Int)%65536=_;omega
  rw [key p hp]
theorem Zbix {x y n c:Nat} {a:Option Addr} {l:List Int} (hx:x<4294967296) (hy:y<4294967296) (hr:Reads H a n (bv l)) (hl:AllB l) (hn:n <= 1000000):FnW Tryz.prog Zmh ⟨[.int .u32 x,.int .u32 y,.slice a n c]⟩ H fun v H'=>v= .int .u32 (Zcr x y l:Nat)∧Keep Nil H H':=by
  have hln:l.length=n:=by have:=hr.len;simpa using this
  refine Zbrt x y a n c ?_;unfold Zbcu;refine (Zbyd hx hy (n:=n) (by omega)).mono ?_
  rintro _ H1 ⟨rfl,k1⟩;have:=Zmw (x/65536+x%65536+y/65536+y%65536+6+n%65536);refine ⟨_,rfl,(Zbst (show Zhe x y n<4294967296 by unfold Zhe;omega) (hr.keep k1 fun _ _ h=>h) hl hn).mono ?_⟩
  rintro _ _ ⟨rfl,e⟩;rw [e];refine ⟨_,rfl,fun H2 hs=>⟨?_,Zk k1 hs⟩⟩;unfold Zcr;rw [hln]
theorem or16 {a b:Nat} (ha:a<65536) (hb:b<256):Zea .i64 ((a*256:Nat):Int) ((b:Nat):Int)=((a*256+b:Nat):Int):=by
  unfold Zea;have h1:(BitVec.ofInt (IntKind.bits .i64) ((a*256:Nat):Int)).toNat=a*256:=by show (BitVec.ofInt 64 ((a*256:Nat):Int)).toNat=_;rw [BitVec.toNat_ofInt];omega
  have h2:(BitVec.ofInt (IntKind.bits .i64) ((b:Nat):Int)).toNat=b:=by show (BitVec.ofInt 64 ((b:Nat):Int)).toNat=_;rw [BitVec.toNat_ofInt];omega
  rw [BitVec.toNat_or,h1,h2];have h3:a*256||| b=a*256+b:=by
    have:=Nat.two_pow_add_eq_or_of_lt (i:=8) (b:=b) (by omega) a
    rw [Nat.mul_comm (2^8) a] at this;exact this.symm
  rw [h3,Zi (by omega) (by omega)]
theorem or32 {a b:Nat} (ha:a<65536) (hb:b<65536):Zea .u32 ((a*65536:Nat):Int) ((b:Nat):Int)=((a*65536+b:Nat):Int):=by
  unfold Zea;have h1:(BitVec.ofInt (IntKind.bits .u32) ((a*65536:Nat):Int)).toNat=a*65536:=by show (BitVec.ofInt 32 ((a*65536:Nat):Int)).toNat=_;rw [BitVec.toNat_ofInt];omega
  have h2:(BitVec.ofInt (IntKind.bits .u32) ((b:Nat):Int)).toNat=b:=by show (BitVec.ofInt 32 ((b:Nat):Int)).toNat=_;rw [BitVec.toNat_ofInt];omega
  rw [BitVec.toNat_or,h1,h2];have h3:a*65536||| b=a*65536+b:=by
    have:=Nat.two_pow_add_eq_or_of_lt (i:=16) (b:=b) (by omega) a
    rw [Nat.mul_comm (2^16) a] at this;exact this.symm
  rw [h3,w32];omega
variable {a:Option Addr} {n c:Nat} {l:List Int}
theorem Zyw (hr:Reads H a n (bv l)) (hl:AllB l) (hn:2 <= n):FnW Tryz.prog Zbu ⟨[.slice a n c]⟩ H fun v H'=>v= .int .i64 (Zy l 0:Nat)∧H'=H:=by
  have hln:l.length=n:=by have:=hr.len;simpa using this
  refine Zcgz a n c ?_;unfold Zbmy;have g1:=hl.get (show 0<l.length by omega)
  have g2:=hl.get (show 1<l.length by omega)
  cases a with
  | none=>have:=hr.2;simp only at this;omega
  | some a=>
    refine NilP.intro _ rfl (InB.intro 0 rfl (by omega) (Zgn hr (by omega) fun x hx=>⟨_,hx,by decide,NilP.intro _ rfl (InB.intro 1 rfl (by omega) (Zgn hr (by omega) fun y hy=>⟨_,hy,fun H2 hs=>⟨?_,(Zf hs).symm⟩⟩))⟩))
    obtain ⟨a1,a2⟩:=g1;obtain ⟨c1,c2⟩:=g2;have w1:IntKind.wrap .i64 (IntKind.wrap .i64 (l.getD 0 0)*2^(min (8:Int).toNat (IntKind.bits .i64)))=(((l.getD 0 0).toNat*256:Nat):Int):=by
      rw [Zi (n:=l.getD 0 0) (by omega) (by omega)]
      show IntKind.wrap .i64 (l.getD 0 0*256)=_;rw [Zi (by omega) (by omega)];omega
    have w2:IntKind.wrap .i64 (l.getD 1 0)=(((l.getD 1 0).toNat:Nat):Int):=by rw [Zi (by omega) (by omega)];omega
    rw [w1,w2,or16 (by omega) (by omega)];rfl
theorem Zbyv {xs:List Value} (h:Reads H a n xs) {k:Nat} (hk:k <= n) (hc:n <= c):Reads H (if c=k then a else Option.map (fun x=>Addr.add x (k*1)) a) (n - k) (xs.drop k):=by
  have hl:=h.len;cases a with
  | none=>
    have h0:n=0:=h.2;subst h0;have e:(if c=k then (none:Option Addr) else Option.map (fun x=>Addr.add x (k*1)) none)=none:=by split<;>rfl
    rw [e];exact ⟨by simp;omega,Nat.zero_sub _⟩
  | some x=>
    refine ⟨by simp;omega,?_⟩
    by_cases e:c=k;rw [if_pos e];exact fun h=>absurd h (by omega)
    . rw [if_neg e];show 0<n - k->_;intro hp;obtain ⟨hs,cs,T,fr,hb,hx⟩:=h.2 (show 0<n by omega)
      show (Addr.add x (k*1)).spot=none∧∃c T fr,H (Addr.add x (k*1)).block=some (.cells c T fr)∧∀j,j<n - k->c[(Addr.add x (k*1)).off+j]? =(xs.drop k)[j]?
      rw [show Addr.add x (k*1)=⟨x.block,x.off+k,none⟩ by rw [Zdj hs,Nat.mul_one]]
      refine ⟨rfl,cs,T,fr,hb,fun j hj=>?_⟩;show cs[x.off+k+j]? =_;rw [Nat.add_assoc,hx _ (by omega),List.getElem?_drop]
theorem Zbtp (l:List Int) (k:Nat):(bv l).drop k=bv (l.drop k):=by simp [bv,List.map_drop]
theorem Zio (h:Reads H a n (bv l)) {k:Nat} (hk:k <= n) (hc:n <= c):Reads H (if c=k then a else Option.map (fun x=>Addr.add x (k*1)) a) (n - k) (bv (l.drop k)):=by rw [← Zbtp];exact Zbyv h hk hc
theorem Zbgn (l:List Int) (k:Nat):Zy (l.drop k) 0=Zy l k:=by unfold Zy;simp only [List.getD_eq_getElem?_getD,List.getElem?_drop,Nat.add_zero,Nat.zero_add]
theorem Zyv (hr:Reads H a n (bv l)) (hl:AllB l) {k:Nat} (hn:k+2 <= n) (hc:n <= c):FnW Tryz.prog Zbu ⟨[.slice (if c=k then a else Option.map (fun x=>Addr.add x (k*1)) a) (n - k) (c - k)]⟩ H fun v H'=>v= .int .i64 (Zy l k:Nat)∧H'=H:=by
  have:=Zyw (c:=c - k) (Zio hr (c:=c) (k:=k) (by omega) hc) (hl.drop k) (by omega)
  rw [Zbgn] at this;exact this
theorem Zbve (hr:Reads H a n (bv l)) (hl:AllB l) (hn:4 <= n) (hc:n <= c):FnW Tryz.prog Zeb ⟨[.slice a n c]⟩ H fun v H'=>v= .int .u32 (Zdp l 0:Nat)∧H'=H:=by
  have hln:l.length=n:=by have:=hr.len;simpa using this
  refine Zciv a n c ?_;unfold Zboy;refine InC.intro 2 rfl (by omega) ((Zyw hr hl (by omega)).mono ?_)
  rintro _ _ ⟨rfl,e⟩;rw [e];refine ⟨_,rfl,by decide,(Zyv hr hl (k:=2) (by omega) hc).mono ?_⟩
  rintro _ _ ⟨rfl,e⟩;rw [e];refine ⟨_,rfl,fun H2 hs=>⟨?_,(Zf hs).symm⟩⟩;have q1:=Zgi hl (show 0+1<l.length by omega)
  have q2:=Zgi hl (show 2+1<l.length by omega)
  have w1:IntKind.wrap .u32 (IntKind.wrap .u32 ((Zy l 0:Nat):Int)*2^(min (16:Int).toNat (IntKind.bits .u32)))=((Zy l 0*65536:Nat):Int):=by show IntKind.wrap .u32 (IntKind.wrap .u32 ((Zy l 0:Nat):Int)*65536)=_;rw [w32,w32];omega
  have w2:IntKind.wrap .u32 ((Zy l 2:Nat):Int)=((Zy l 2:Nat):Int):=by rw [w32];omega
  rw [w1,w2,or32 (by omega) (by omega)];rfl
theorem Zbvd (hr:Reads H a n (bv l)) (hl:AllB l) {k:Nat} (hn:k+4 <= n) (hc:n <= c):FnW Tryz.prog Zeb ⟨[.slice (if c=k then a else Option.map (fun x=>Addr.add x (k*1)) a) (n - k) (c - k)]⟩ H fun v H'=>v= .int .u32 (Zdp l k:Nat)∧H'=H:=by
  have:=Zbve (c:=c - k) (Zio hr (c:=c) (k:=k) (by omega) hc) (hl.drop k) (by omega) (by omega)
  have e:Zdp (l.drop k) 0=Zdp l k:=by
    unfold Zdp;rw [Zbgn];have:Zy (l.drop k) (0+2)=Zy l (k+2):=by unfold Zy;simp only [List.getD_eq_getElem?_getD,List.getElem?_drop]
    rw [this]
  rw [e] at this;exact this
end
end Go.Proofs.YtaljkjokbdpdoaaGreat
end
section
set_option maxRecDepth 100000
namespace Go.Proofs.YtaljkjokbdpdoaaGreat
open Go.Sh Go.Pc Go.Conn
section
variable {H:Heap}
theorem w8 (z:Int):IntKind.wrap .u8 z=lo z:=rfl
theorem w8hi (z:Int):IntKind.wrap .u8 (Int.fdiv z (2^(min (8:Int).toNat (IntKind.bits .i64))))=hi z:=by show Int.fdiv z 256%256=z/256%256;rw [Int.fdiv_eq_ediv_of_nonneg _ (by decide)]
theorem Zgv (l:List Int) (o:Nat) (x:Int):(bv l).set o (.int .u8 x)=bv (l.set o x):=by simp [bv,List.map_set]
theorem Zri {m o n c:Nat} {x:Int} {l:List Int} (h:Blk H m Zh ⟨bv l⟩) (hn:2 <= n) (hc:o+2 <= l.length):FnW Tryz.prog Zct ⟨[.slice (some ⟨m,o,none⟩) n c,.int .i64 x]⟩ H fun v H'=>v= .tuple ⟨[]⟩∧Blk H' m Zh ⟨bv ((l.set o (hi x)).set (o+1) (lo x))⟩∧Keep (fun y=>y=m) H H':=by
  refine Zso _ n c x ?_;unfold Zne;refine ⟨by decide,NilP.intro _ rfl (InB.intro 0 rfl (by omega) ?_)⟩
  rw [Zw,w8hi];refine stL h (by simp;omega) rfl fun H1 h1 k1=>NilP.intro _ rfl (InB.intro 1 rfl (by omega) ?_)
  rw [Zw,w8];rw [Nat.zero_mul,Nat.add_zero,Zgv] at h1;refine stL h1 (by simp;omega) rfl fun H2 h2 k2=>fun H3 hs=>⟨rfl,?_,Zbl (k1.trans k2) hs⟩
  rw [Nat.one_mul,Zgv] at h2;exact Zcb h2 hs
theorem Zbaa {m k C N:Nat} {x:Int} {l:List Int} (h:Blk H m Zh ⟨bv l⟩) (hk:k+2 <= N) (hN:N <= C) (hl:l.length=C):
    FnW Tryz.prog Zct ⟨[.slice (if C=k then some ⟨m,0,none⟩ else Option.map (fun a=>Addr.add a (k*1)) (some (⟨m,0,none⟩:Addr))) (N - k) (C - k),.int .i64 x]⟩ H fun v H'=>v= .tuple ⟨[]⟩∧Blk H' m Zh ⟨bv ((l.set k (hi x)).set (k+1) (lo x))⟩∧Keep (fun y=>y=m) H H':=by
  rw [if_neg (by omega),Option.map_some,Zdj rfl]
  have e:(0:Nat)+k*1=k:=by omega
  show FnW Tryz.prog Zct ⟨[.slice (some ⟨m,0+k*1,none⟩) (N - k) (C - k),.int .i64 x]⟩ H _;rw [e];exact Zri h (by omega) (by omega)
theorem Zbhh {m k C N z:Nat} {l:List Int} (h:Blk H m Zh ⟨bv l⟩) (hk:k+4 <= N) (hN:N <= C) (hl:l.length=C) (hz:z<4294967296):
    FnW Tryz.prog Zid ⟨[.slice (if C=k then some ⟨m,0,none⟩ else Option.map (fun a=>Addr.add a (k*1)) (some (⟨m,0,none⟩:Addr))) (N - k) (C - k),.int .u32 z]⟩ H fun v H'=>v= .tuple ⟨[]⟩∧
      Blk H' m Zh ⟨bv ((((l.set k (hi (z/65536:Nat))).set (k+1) (lo (z/65536:Nat))).set (k+2) (hi z)).set (k+3) (lo z))⟩∧Keep (fun y=>y=m) H H':=by
  rw [if_neg (by omega),Option.map_some,Zdj rfl]
  have e:(0:Nat)+k*1=k:=by omega
  show FnW Tryz.prog Zid ⟨[.slice (some ⟨m,0+k*1,none⟩) (N - k) (C - k),.int .u32 z]⟩ H _;rw [e];refine Zbqr _ _ _ z ?_;unfold Zbco;have w1:IntKind.wrap .i64 (Int.fdiv (z:Int) (2^(min (16:Int).toNat (IntKind.bits .u32))))=((z/65536:Nat):Int):=by rw [Zyq,Zi (by omega) (by omega)]
  have w2:IntKind.wrap .i64 (z:Int)=(z:Int):=Zi (by omega) (by omega)
  rw [w1,w2];refine ⟨by decide,(Zri h (by omega) (by omega)).mono ?_⟩
  rintro _ H1 ⟨rfl,h1,k1⟩;refine ⟨rfl,InC.intro 2 rfl (by omega) ?_⟩
  rw [if_neg (by omega),Option.map_some,Zdj rfl]
  have e2:k+2*1=k+2:=by omega
  show FnW Tryz.prog Zct ⟨[.slice (some ⟨m,k+2*1,none⟩) (N - k - 2) (C - k - 2),.int .i64 z]⟩ H1 _;rw [e2];refine (Zri h1 (by omega) (by simp;omega)).mono ?_
  rintro _ H2 ⟨rfl,h2,k2⟩;exact ⟨rfl,fun H3 hs=>⟨rfl,Zcb h2 hs,Zbl (k1.trans k2) hs⟩⟩
variable {s:Sg} {a:Option Addr} {n c:Nat}
theorem Zbxh:FnW Tryz.prog Zop ⟨[.agg ⟨sgL s a n c⟩]⟩ H fun v H'=>∃a2 c2,v= .slice a2 (optB s).length c2∧Reads H' a2 (optB s).length (bv (optB s))∧Keep Nil H H':=by
  refine Zbki _ _ _ _ _ _ _ _ a n c ?_;unfold Zbbs;refine newB fun q H1 hq b k1=>⟨_,cellL b 7 rfl,IfB.intro (fun e H2 hs=>?_) fun e=>⟨_,cellL b 7 rfl,by decide,_,cellL b 7 rfl,newB fun r H2 hr b2 k2 H3 hs=>?_⟩⟩
  have e:s.big=0:=eq_of_beq e;have:optB s= []:=if_pos e;rw [this];exact ⟨none,0,rfl,Reads.nil,Zk k1 hs⟩
  . have e: ¬s.big=0:=fun h=>by rw [h] at e;cases e
    have:optB s= [2,4,hi s.big,lo s.big]:=if_neg e;rw [this];rw [w8hi,w8] at b2;refine ⟨some ⟨r,0,none⟩,4,rfl,Reads.blk (Zcb b2 hs) rfl fun j hj=>?_,Zk (k1.trans k2) hs⟩;rw [Nat.zero_add,List.getElem?_toArray];rfl
theorem Zbwr {l k:Nat} {K:Value->Heap->Prop} (hlk:l <= k) (hk:k <= 1000000) (h: ∀m H',H m=none->Blk H' m Zh ⟨bv (List.replicate k 0)⟩->Keep Nil H H'->K (.slice (some ⟨m,0,none⟩) l k) H'):Zcw Tryz.prog Zd (.int .i64 l) (.int .i64 k) H K:=by
  obtain ⟨it,i1,i2,i3⟩:=Zog;refine Zcw.intro (e:=Zh) (z:=[.int .u8 0]) (by kernel_rfl) i1 (by kernel_rfl) (by rw [i2];rfl) hlk (by omega) (by rw [i3];omega) fun m hm=>?_
  refine h m _ hm ?_ ((Keep.refl _ _).new hm);have:repL k [Value.int .u8 0]=bv (List.replicate k 0):=by
    apply List.ext_getElem?
    intro i;by_cases hi:i<k;rw [Zmv _ _ _ hi];simp [bv,hi];rw [List.getElem?_eq_none (by rw [Zrq];omega),List.getElem?_eq_none (by simp;omega)]
  rw [this];exact Blk.upd_eq
theorem Zbxx {H0:Heap} {m k l:Nat} {ys:List Int} (h:Blk H m Zh ⟨bv ys⟩) (hk:ys.length=k) (hl:l <= k) (h0:H0 m=none):Sh.Own H0 H (some ⟨m,0,none⟩) l k 1 Zh (bv (ys.take l)):=by
  refine ⟨by simp;omega,hl,.inr ⟨m,bv (ys.drop l),rfl,h0,?_,by simp;omega⟩⟩
  rw [← Zof,List.take_append_drop];exact h
theorem Zbzt (r:Nat):List.replicate (20+r) (0:Int)= [0,0,0,0,0,0,0,0,0,0,0,0,0,0,0,0,0,0,0,0]++List.replicate r 0:=by rw [← List.replicate_append_replicate];rfl
theorem Zbyq {H0:Heap} {a':Option Addr} {l k o:Nat} {xs:List Int} {x:Int} (h:Sh.Own H0 H a' l k 1 Zh (bv xs)) (ho:o+2 <= l):
    FnW Tryz.prog Zct ⟨[.slice (if k=o then a' else Option.map (fun a=>Addr.add a (o*1)) a') (l - o) (k - o),.int .i64 x]⟩ H fun v H'=>v= .tuple ⟨[]⟩∧Sh.Own H0 H' a' l k 1 Zh (bv ((xs.set o (hi x)).set (o+1) (lo x)))∧Keep (fun y=>a'=some ⟨y,0,none⟩) H H':=by
  obtain ⟨h1,h2,h3⟩:=h;have h1:xs.length=l:=by simpa using h1
  rcases h3 with ⟨_,e,_⟩ | ⟨m,rest,e,h0,hB,hr⟩;omega
  . subst e;have hne:k≠o:=by omega
    rw [if_neg hne,Option.map_some,Zdj rfl];refine Zso _ _ _ x ?_;unfold Zne;refine ⟨by decide,NilP.intro _ rfl (InB.intro 0 rfl (by omega) ?_)⟩
    rw [Zw,w8hi];refine stL hB (by simp;omega) rfl fun H1 b1 k1=>NilP.intro _ rfl (InB.intro 1 rfl (by omega) ?_)
    rw [Zw,w8];refine stL b1 (by simp;omega) rfl fun H2 b2 k2=>fun H3 hs=>⟨rfl,⟨by simp;omega,h2,.inr ⟨m,rest,rfl,h0,?_,hr⟩⟩,Zbl ((k1.trans k2).mono fun y e=>by rw [e]) hs⟩
    have e1:(0:Nat)+o*1+0*1=o:=by omega
    have e2:(0:Nat)+o*1+1*1=o+1:=by omega
    rw [e1,e2,List.set_append_left _ _ (by simp;omega),List.set_append_left _ _ (by simp;omega),Zgv,Zgv] at b2
    exact Zcb b2 hs
theorem Zccc (m:Nat) (hm:m=0∨m=4):lo (IntKind.wrap .i64 ((IntKind.wrap .i64 (Int.tdiv (IntKind.wrap .i64 (20+(m:Int))) 4))*2^(min (4:Int).toNat (IntKind.bits .i64))))=if m=0 then 80 else 96:=by rcases hm with rfl | rfl<;>rfl
theorem Zbxf (s:Sg):(optB s).length=if s.big=0 then 0 else 4:=by unfold optB;split<;>rfl
theorem Zbsh {x y:Nat} (hx:x<4294967296) (hy:y<4294967296) (hr:Reads H a n (bv s.data)) (hd:AllB s.data) (h1:s.seq<4294967296) (h2:s.ack<4294967296):FnW Tryz.prog Zmi ⟨[.int .u32 x,.int .u32 y,.agg ⟨sgL s a n c⟩]⟩ H fun v H'=>
    (∃a' c' e,v= .tuple ⟨[.slice a' (outV x y s).length c',.int .i64 e]⟩∧Sh.Own H H' a' (outV x y s).length c' 1 Zh (bv (outV x y s)))∧Keep Nil H H':=by
  have hdl:s.data.length=n:=by have:=hr.len;simpa using this
  refine Zbru x y _ _ _ _ _ _ _ _ a n c ?_;unfold Zbcv;refine newB fun q H1 hq b1 k1=>ld9 b1 (Zbey.mono ?_);rintro _ H2 ⟨rfl,k2⟩;have kk2:=k1.trans k2;have b2:=k2.blk b1 id;have no:s.can=false->outV x y s= []:=fun e=>by unfold outV;rw [e];rfl
  refine ⟨_,rfl,IfB.intro (fun hf H3 hs=>⟨⟨none,0,2,?_⟩,Zk kk2 hs⟩) fun hf=>⟨_,_,_,cellL b2 8 rfl,IfB.intro (fun hl H3 hs=>⟨⟨none,0,3,?_⟩,Zk kk2 hs⟩) fun hl=>ld9 b2 (Zbxh.mono ?_)⟩⟩
  . rw [no (by unfold Sg.can;cases e:s.fits with
      | true=>rw [e] at hf;cases hf
      | false=>rfl)]
    exact ⟨rfl,Sh.Own.nil⟩
  . have hl:=of_decide_eq_true hl;rw [no (by unfold Sg.can;rw [decide_eq_false (by omega),Bool.and_false])]
    exact ⟨rfl,Sh.Own.nil⟩
  have hl:=of_decide_eq_false hl;have hfits:s.fits=true:=by
    cases e:s.fits with
    | true=>rfl
    | false=>rw [e] at hf;cases hf
  have hcan:s.can=true:=by
    unfold Sg.can;rw [decide_eq_true (by omega:s.data.length <= 65495),hfits];rfl
  obtain ⟨_,_,_,_,_,f6,f7⟩:=Zgc hfits;rintro _ H3 ⟨oa,oc,rfl,or,k3⟩;have b3:=k3.blk b2 id;have hol:=Zbxf s;have hm04:(optB s).length=0∨(optB s).length=4:=by rw [hol];split<;>simp
  generalize hM:(optB s).length=M at*;have hw:IntKind.wrap .i64 (IntKind.wrap .i64 (20+(M:Int))+(n:Int))=((20+(M+n):Nat):Int):=by
    rw [Zi (n:=20+(M:Int)) (by omega) (by omega),Zi (by omega) (by omega)];omega
  refine ⟨_,_,_,rfl,_,_,_,cellL b3 8 rfl,?_⟩;rw [hw];refine Zbwr (l:=20) (by omega) (by omega) fun m H4 hm r4 k4=>⟨_,_,_,rfl,?_⟩
  rw [Zbzt] at r4;have hR:(List.replicate (M+n) (0:Int)).length=M+n:=List.length_replicate;generalize List.replicate (M+n) (0:Int)=R at r4 hR;have hcap:20 <= 20+(M+n):=by omega
  generalize hC:20+(M+n)=C at*;have hC2: ∀l:List Int,l.length=20->(l++R).length=C:=fun l h=>by rw [List.length_append];omega
  have b4:=k4.blk b3 id;have hmq:q≠m:=fun e=>b3.some (e▸hm);refine ⟨_,cellL b4 0 rfl,?_⟩;refine (Zri r4 (by omega) (by rw [hC2 _ rfl];omega)).mono ?_
  rintro _ H5 ⟨rfl,r5,k5⟩;simp only [List.cons_append,List.nil_append,List.set_cons_zero,List.set_cons_succ] at r5;have b5:=k5.blk b4 hmq;refine ⟨rfl,InC.intro 2 rfl (by omega) ⟨_,cellL b5 1 rfl,(Zbaa r5 (by omega) (by omega) (hC2 [_,_,_,_,_,_,_,_,_,_,_,_,_,_,_,_,_,_,_,_] rfl)).mono ?_⟩⟩
  rintro _ H6 ⟨rfl,r6,k6⟩;simp only [List.cons_append,List.nil_append,List.set_cons_zero,List.set_cons_succ] at r6;have b6:=k6.blk b5 hmq;refine ⟨rfl,InC.intro 4 rfl (by omega) ⟨_,cellL b6 2 rfl,(Zbhh r6 (by omega) (by omega) (hC2 [_,_,_,_,_,_,_,_,_,_,_,_,_,_,_,_,_,_,_,_] rfl) h1).mono ?_⟩⟩
  rintro _ H7 ⟨rfl,r7,k7⟩;simp only [List.cons_append,List.nil_append,List.set_cons_zero,List.set_cons_succ] at r7;have b7:=k7.blk b6 hmq;refine ⟨rfl,InC.intro 8 rfl (by omega) ⟨_,cellL b7 3 rfl,(Zbhh r7 (by omega) (by omega) (hC2 [_,_,_,_,_,_,_,_,_,_,_,_,_,_,_,_,_,_,_,_] rfl) h2).mono ?_⟩⟩
  rintro _ H8 ⟨rfl,r8,k8⟩;simp only [List.cons_append,List.nil_append,List.set_cons_zero,List.set_cons_succ] at r8;have b8:=k8.blk b7 hmq;obtain ⟨kp1,_⟩:=Zcq b8.some;refine ⟨rfl,[q],kp1,by decide,by decide,List.mem_singleton.2 rfl,_,cellL b8 4 rfl,NilP.intro _ rfl (InB.intro 12 rfl (by omega) ?_)⟩
  rw [Zw,w8,Zccc M hm04];refine stL r8 (by simp [hR]) rfl fun H9 r9 k9=>⟨fun y hy=>?_,NilP.intro _ rfl (InB.intro 13 rfl (by omega) ?_)⟩
  rw [List.mem_singleton.1 hy];have hbs: ∃ob,H8 q=some ob:=⟨_,b8⟩;exact ⟨hbs,k9.same q hmq b8.some⟩;rw [Zgv] at r9;rw [Zw,w8];refine stL r9 (by simp [hR]) rfl fun H10 r10 k10=>InC.intro 14 rfl (by omega) ?_
  rw [Zgv] at r10;simp only [List.cons_append,List.nil_append,List.set_cons_zero,List.set_cons_succ,Nat.zero_add,Nat.mul_one] at r10;have b10:=k10.blk (k9.blk b8 hmq) hmq;refine ⟨_,cellL b10 5 rfl,(Zbaa r10 (by omega) (by omega) (hC2 [_,_,_,_,_,_,_,_,_,_,_,_,_,_,_,_,_,_,_,_] rfl)).mono ?_⟩
  rintro _ H11 ⟨rfl,r11,k11⟩;simp only [List.cons_append,List.nil_append,List.set_cons_zero,List.set_cons_succ] at r11;have b11:=k11.blk b10 hmq;refine ⟨rfl,InC.intro 18 rfl (by omega) ⟨_,cellL b11 6 rfl,(Zbaa r11 (by omega) (by omega) (hC2 [_,_,_,_,_,_,_,_,_,_,_,_,_,_,_,_,_,_,_,_] rfl)).mono ?_⟩⟩
  rintro _ H12 ⟨rfl,r12,k12⟩;simp only [List.cons_append,List.nil_append,List.set_cons_zero,List.set_cons_succ] at r12;have b12:=k12.blk b11 hmq;have km:Keep (fun y=>y=m) H4 H12:=(((((((k5.trans k6).trans k7).trans k8).trans k9).trans k10).trans k11).trans k12);have kH:Keep Nil H H12:=((kk2.trans k3).trans k4).then km fun y hy=> .inr ((kk2.trans k3).free (hy▸hm));have kH3:Keep Nil H3 H12:=k4.then km fun y hy=> .inr (hy▸hm);have o12:=Zbxx (H0:=H3) r12 (hC2 [_,_,_,_,_,_,_,_,_,_,_,_,_,_,_,_,_,_,_,_] rfl) (l:=20) (by omega) hm
  simp only [List.take_succ_cons,List.take_zero] at o12;obtain ⟨kp2,_⟩:=Zcq b12.some;rw [← hM] at or;refine ⟨rfl,[q],kp2,List.mem_singleton.2 rfl,_,_,_,cellL b12 8 rfl,?_⟩;rw [← hM];refine Zgt o12 kH3 (or.keep kH3 fun _ _ h=>h) (by omega) fun a13 c13 H13 o13 _ k13 kk13=>⟨_,_,_,rfl,fun y hy=>?_,?_⟩
  rw [List.mem_singleton.1 hy];have hbs: ∃ob,H12 q=some ob:=⟨_,b12⟩;refine ⟨hbs,k13.same q (fun e=>?_) b12.some⟩;cases e;exact hmq rfl;have hr13:Reads H13 a n (bv s.data):=hr.keep (((kk2.trans k3)).trans kk13) fun _ _ h=>h;refine Zgt o13 kk13 hr13 (by omega) fun a14 c14 H14 o14 _ k14 kk14=>⟨_,_,_,rfl,InC.intro 16 rfl (by omega) ?_⟩
  have hbody:Zs s 0=([hi s.src,lo s.src,hi s.dst,lo s.dst,hi (s.seq/65536:Nat),lo (s.seq/65536:Nat),hi s.seq,lo s.seq,hi (s.ack/65536:Nat),lo (s.ack/65536:Nat),hi s.ack,lo s.ack,(if M=0 then 80 else 96),lo s.flags,hi s.win,lo s.win,0,0,hi s.urg,lo s.urg]++optB s)++s.data:=by
    unfold Zs;rw [List.append_assoc];have e1:lo s.flags=s.flags:=by unfold lo;omega
    have e2:(if M=0 then (80:Int) else 96)=if s.big=0 then 80 else 96:=by rw [hol];by_cases hb:s.big=0;rw [if_pos hb,if_pos hb];rfl;rw [if_neg hb,if_neg hb];rfl
    rw [e1,e2];rfl
  have hlen:20+(optB s).length+n=(Zs s 0).length:=by rw [hbody];simp;omega
  rw [← hbody] at o14;have r14:Reads H14 a14 (20+(optB s).length+n) (bv (Zs s 0)):=by have:=o14.reads;rwa [Nat.mul_one] at this
  refine (Zbix hx hy r14 (Zbcy ⟨f6,f7⟩ hd 0) (by omega)).mono ?_
  rintro _ H15 ⟨rfl,k15⟩;refine ⟨_,rfl,(Zbvb (Zmw _)).mono ?_⟩;rintro _ _ ⟨rfl,e⟩;rw [e];have hw16:IntKind.wrap .i64 ((65535 - Zcr x y (Zs s 0):Nat):Int)=((65535 - Zcr x y (Zs s 0):Nat):Int):=Zi (by omega) (by omega)
  refine ⟨_,rfl,?_⟩;show FnW Tryz.prog Zct ⟨[_,.int .i64 (IntKind.wrap .i64 ((65535 - Zcr x y (Zs s 0):Nat):Int))]⟩ H15 _;rw [hw16];refine (Zbyq (o:=16) (o14.keep k15 fun _ _ h=>h) (by omega)).mono ?_
  rintro _ H16 ⟨rfl,o16,k16⟩;have eb:((Zs s 0).set 16 (hi ((65535 - Zcr x y (Zs s 0):Nat):Int))).set (16+1) (lo ((65535 - Zcr x y (Zs s 0):Nat):Int))=outV x y s:=by unfold outV;rw [if_pos hcan];rfl
  rw [eb] at o16;have el:20+(optB s).length+n=(outV x y s).length:=by rw [← eb,List.length_set,List.length_set];exact hlen
  rw [el] at o16;have kH14:Keep Nil H H14:=(kk2.trans k3).trans kk14;refine ⟨rfl,fun H17 hs=>⟨⟨a14,c14,0,by rw [el],?_⟩,Zk ((kH14.trans k15).then k16 fun y hy=> .inr ?_) hs⟩⟩
  exact Zbn (o16.mono (kk2.trans k3)) hs;exact (kk2.trans k3).free (o14.free hy)
end
end Go.Proofs.YtaljkjokbdpdoaaGreat
end
section
set_option maxRecDepth 100000
namespace Go.Conn
theorem Zyz: ∀(f f':Nat) (o:List Int) (n:Int),o.length<f->o.length<f'->Zbj f o n=Zbj f' o n
  | 0,_,_,_,h,_=>absurd h (by omega)
  | _+1,0,_,_,_,h=>absurd h (by omega)
  | f+1,f'+1,o,n,h1,h2=>by
    unfold Zbj;by_cases e:o.length=0∨o.getD 0 0=0;rw [if_pos e,if_pos e];rw [if_neg e,if_neg e];have hl: ∀k,1 <= k->(o.drop k).length<f∧(o.drop k).length<f':=fun k hk=>by rw [List.length_drop];omega
    have go: ∀k m,1 <= k->Zbj f (o.drop k) m=Zbj f' (o.drop k) m:=fun k m hk=>Zyz f f' _ m (hl k hk).1 (hl k hk).2;by_cases e1:o.getD 0 0=1;rw [if_pos e1,if_pos e1];exact go 1 n (by omega)
    rw [if_neg e1,if_neg e1];by_cases e2:o.length<2∨o.getD 1 0<2∨(o.length:Int)<o.getD 1 0;rw [if_pos e2,if_pos e2];rw [if_neg e2,if_neg e2];by_cases e3:o.getD 0 0=2;rw [if_pos e3,if_pos e3];by_cases e4:o.getD 1 0≠4;rw [if_pos e4,if_pos e4];rw [if_neg e4,if_neg e4];exact go 4 _ (by omega)
    rw [if_neg e3,if_neg e3];exact go _ n (by omega)
end Go.Conn
namespace Go.Proofs.YtaljkjokbdpdoaaGreat
open Go.Sh Go.Pc Go.Conn
section
variable {H:Heap} {a:Option Addr} {n c:Nat} {l:List Int}
theorem byte_at (hr:Reads H a n (bv l)) {i:Nat} {z:Int} (hz:z=i) (hi:i<n) {Q:Int->Prop} (h:Q (l.getD i 0)):NilP a fun q=>InB z n fun m=>elemAt q m 1 fun p=>∃x:Int,H.cell p=some (.int .u8 x)∧Q x:=by
  cases a with
  | none=>have:=hr.2;simp only at this;omega
  | some a=>exact NilP.intro _ rfl (InB.intro i hz hi (Zgn hr hi fun x hx=>⟨_,hx,h⟩))
theorem Zbvf (hr:Reads H a n (bv l)) (hl:AllB l) (hc:n <= c) (hn:n <= 1000000):FnW Tryz.prog Zxm ⟨[.slice a n c]⟩ H fun v H'=>v= .tuple ⟨[.int .i64 ((Zbj (n+1) l 0).getD 0),.bool (Zbj (n+1) l 0).isSome]⟩∧H'=H:=by
  refine Zchv a n c ?_;unfold Zbnq;generalize hR:Zbj (n+1) l 0=R;refine Zbo (fun k s H'=>H'=H∧∃a' c' o,s=((a',k,c'),(s.2.1,()))∧Reads H a' k (bv o)∧AllB o∧k <= c'∧k <= 1000000∧Zbj (k+1) o s.2.1=R) n ⟨rfl,a,c,l,rfl,hr,hl,hc,hn,hR⟩ ?_;rintro k ⟨⟨a',k',c'⟩,g,u⟩ H' ⟨e,a2,c2,o,es,ro,ho,hkc,hk6,hg⟩ _;rw [e];clear e H';cases es;simp only at hg;have hol:o.length=k:=by have:=ro.len;simpa using this
  have fin: ∀{v:Value},v= .tuple ⟨[.int .i64 (R.getD 0),.bool R.isSome]⟩->∀H2,Shut H H H2->v= .tuple ⟨[.int .i64 (R.getD 0),.bool R.isSome]⟩∧H2=H:=fun e H2 hs=>⟨e,(Zf hs).symm⟩;unfold Zbnp;unfold Zbj at hg;have j0: ∀x:Bool,(x=true↔(o.length=0∨o.getD 0 0=0))->Zsp a' k c' g (fun s H'=>∃k'',k''<k∧H'=H∧∃a3 c3 o3,s=((a3,k'',c3),(s.2.1,()))∧Reads H a3 k'' (bv o3)∧AllB o3∧k'' <= c3∧k'' <= 1000000∧Zbj (k''+1) o3 s.2.1=R) x H fun v H1=>∀H2,Shut H H1 H2->v= .tuple ⟨[.int .i64 (R.getD 0),.bool R.isSome]⟩∧H2=H:=by
    intro x hx;unfold Zsp;refine IfB.intro (fun e=>?_) fun e=>?_;rw [if_pos (hx.1 e)] at hg;rw [← hg];exact fun H2 hs=>⟨rfl,(Zf hs).symm⟩;have hx0: ¬(o.length=0∨o.getD 0 0=0):=fun h=>by rw [hx.2 h] at e;cases e
    rw [if_neg hx0] at hg;have next: ∀(j:Nat) (m:Int),1 <= j->j <= k->Zbj k (o.drop j) m=R->∃k'',k''<k∧H=H∧∃a3 c3 o3,(((if c'=j then a' else Option.map (fun x=>Addr.add x (j*1)) a'),k - j,c' - j),(m,()))=((a3,k'',c3),(m,()))∧Reads H a3 k'' (bv o3)∧AllB o3∧k'' <= c3∧k'' <= 1000000∧Zbj (k''+1) o3 m=R:=by
      intro j m h1 h2 h3;refine ⟨k - j,by omega,rfl,_,_,o.drop j,rfl,Zio ro h2 hkc,ho.drop j,by omega,by omega,?_⟩
      rw [← h3];exact Zyz _ _ _ _ (by rw [List.length_drop];omega) (by rw [List.length_drop];omega)
    refine byte_at ro (i:=0) rfl (by omega) (IfB.intro (fun e1=>InC.intro 1 rfl (by omega) ?_) fun e1=>?_)
    have e1:o.getD 0 0=1:=eq_of_beq e1;rw [if_pos e1] at hg;exact next 1 g (by omega) (by omega) hg
    have e1: ¬o.getD 0 0=1:=fun h=>by rw [h] at e1;cases e1
    rw [if_neg e1] at hg;have j1: ∀x:Bool,(x=true↔(o.length<2∨o.getD 1 0<2∨(o.length:Int)<o.getD 1 0))->Znf a' k c' g (fun s H'=>∃k'',k''<k∧H'=H∧∃a3 c3 o3,s=((a3,k'',c3),(s.2.1,()))∧Reads H a3 k'' (bv o3)∧AllB o3∧k'' <= c3∧k'' <= 1000000∧Zbj (k''+1) o3 s.2.1=R) x H fun v H1=>∀H2,Shut H H1 H2->v= .tuple ⟨[.int .i64 (R.getD 0),.bool R.isSome]⟩∧H2=H:=by
      intro x hx;unfold Znf;refine IfB.intro (fun e=>?_) fun e=>?_;rw [if_pos (hx.1 e)] at hg;rw [← hg];exact fun H2 hs=>⟨rfl,(Zf hs).symm⟩;have hx0: ¬(o.length<2∨o.getD 1 0<2∨(o.length:Int)<o.getD 1 0):=fun h=>by rw [hx.2 h] at e;cases e
      rw [if_neg hx0] at hg;obtain ⟨gb0,gb1⟩:=ho.get (show 1<o.length by omega)
      refine byte_at ro (i:=0) rfl (by omega) (IfB.intro (fun e2=>byte_at ro (i:=1) rfl (by omega) (IfB.intro (fun e3=>?_) fun e3=>InC.intro 2 rfl (by omega) ((Zyv ro ho (k:=2) ?_ hkc).mono ?_))) fun e2=>?_)
      have e2:o.getD 0 0=2:=eq_of_beq e2;have e3:o.getD 1 0≠4:=bne_iff_ne.1 e3;rw [if_pos e2,if_pos e3] at hg;rw [← hg];exact fun H2 hs=>⟨rfl,(Zf hs).symm⟩
      . have e3: ¬o.getD 1 0≠4:=fun h=>by rw [bne_iff_ne.2 h] at e3;cases e3
        omega
      . rintro _ _ ⟨rfl,e⟩;rw [e];have e2:o.getD 0 0=2:=eq_of_beq e2;have e3: ¬o.getD 1 0≠4:=fun h=>by rw [bne_iff_ne.2 h] at e3;cases e3
        rw [if_pos e2,if_neg e3] at hg;have e4:o.getD 1 0=4:=Classical.byContradiction e3;refine ⟨_,rfl,?_⟩;unfold Zsq;refine byte_at ro (i:=1) rfl (by omega) (InC.intro 4 (by rw [e4];rfl) (by omega) ?_)
        exact next 4 _ (by omega) (by omega) hg
      . have e2: ¬o.getD 0 0=2:=fun h=>by rw [h] at e2;cases e2
        rw [if_neg e2] at hg;unfold Zsq;refine byte_at ro (i:=1) rfl (by omega) (InC.intro (o.getD 1 0).toNat (by omega) (by omega) ?_)
        exact next _ g (by omega) (by omega) hg
    refine IfB.intro (fun e2=>j1 true ⟨fun _=> .inl ?_,fun _=>rfl⟩) fun e2=>byte_at ro (i:=1) rfl ?_ (IfB.intro (fun e3=>j1 true ⟨fun _=> .inr (.inl (of_decide_eq_true e3)),fun _=>rfl⟩) fun e3=>byte_at ro (i:=1) rfl ?_ (j1 _ ?_));have:=of_decide_eq_true e2;omega;have:=of_decide_eq_false e2;omega;have:=of_decide_eq_false e2;omega
    . have h2:=of_decide_eq_false e2;have h3:=of_decide_eq_false e3;obtain ⟨gb0,gb1⟩:=ho.get (show 1<o.length by omega)
      rw [decide_eq_true_eq,Zi (by omega) (by omega)]
      omega
  refine IfB.intro (fun e=>j0 true ⟨fun _=> .inl ?_,fun _=>rfl⟩) fun e=>byte_at ro (i:=0) rfl ?_ (j0 _ ?_);have e:((k:Nat):Int)=0:=eq_of_beq e;omega
  . have e: ¬((k:Nat):Int)=0:=fun h=>by rw [beq_iff_eq.2 h] at e;cases e
    omega
  . have e: ¬((k:Nat):Int)=0:=fun h=>by rw [beq_iff_eq.2 h] at e;cases e
    rw [beq_iff_eq];omega
def noSg:Sg:=⟨0,0,0,0,0,0,0,0,[]⟩
def Zbhm (b:Nat) (bs:List Nat) (H0:Heap) (s1 s2 s3 s4 s5 s6 s7 s8:Int) (sl:Value) (q:Nat) (H:Heap) (R:Value->Heap->Prop):Prop:=
  AppW Tryz.prog #[Zd,Zd] Zd [.slice (some ⟨q,0,none⟩) 0 0,sl] H fun v H'=>
  ∃(x:Option Addr) (n c:Nat),v= .slice x n c∧Zb bs H0 H'∧
  Za H' ⟨b,0,none⟩ (.int .i64 s1) fun H=>Za H ⟨b,1,none⟩ (.int .i64 s2) fun H=>Za H ⟨b,2,none⟩ (.int .u32 s3) fun H=>Za H ⟨b,3,none⟩ (.int .u32 s4) fun H=>
  Za H ⟨b,4,none⟩ (.int .i64 s5) fun H=>Za H ⟨b,5,none⟩ (.int .i64 s6) fun H=>Za H ⟨b,6,none⟩ (.int .i64 s7) fun H=>Za H ⟨b,7,none⟩ (.int .i64 s8) fun H=>Za H ⟨b,8,none⟩ (.slice x n c) fun H=>
  ∃r0:Int,H.cell ⟨b,0,none⟩=some (.int .i64 r0)∧∃r1:Int,H.cell ⟨b,1,none⟩=some (.int .i64 r1)∧∃r2:Int,H.cell ⟨b,2,none⟩=some (.int .u32 r2)∧∃r3:Int,H.cell ⟨b,3,none⟩=some (.int .u32 r3)∧
  ∃r4:Int,H.cell ⟨b,4,none⟩=some (.int .i64 r4)∧∃r5:Int,H.cell ⟨b,5,none⟩=some (.int .i64 r5)∧∃r6:Int,H.cell ⟨b,6,none⟩=some (.int .i64 r6)∧∃r7:Int,H.cell ⟨b,7,none⟩=some (.int .i64 r7)∧
  ∃(ra:Option Addr) (rn rc:Nat),H.cell ⟨b,8,none⟩=some (.slice ra rn rc)∧R (.tuple ⟨[.agg ⟨[.int .i64 r0,.int .i64 r1,.int .u32 r2,.int .u32 r3,.int .i64 r4,.int .i64 r5,.int .i64 r6,.int .i64 r7,.slice ra rn rc]⟩,.int .i64 0]⟩) H
theorem Zbsv {x:Int} (h:isB x):IntKind.wrap .i64 (Zbc .u8 x 63)=x%64:=by
  have key:((List.range 256).all fun a=>IntKind.wrap .i64 (Zbc .u8 (a:Int) 63)==(a:Int)%64)=true:=by kernel_rfl
  obtain ⟨h0,h1⟩:=h;have h:=List.all_eq_true.1 key x.toNat (List.mem_range.2 (by omega))
  have e:((x.toNat:Nat):Int)=x:=by omega
  rw [e] at h;exact beq_iff_eq.1 h
theorem Zcbd {x:Int} (h:isB x):IntKind.wrap .i64 (4*(IntKind.wrap .i64 (Int.fdiv x (2^(min (4:Int).toNat (IntKind.bits .u8))))))=((4*(x.toNat/16):Nat):Int):=by
  obtain ⟨h0,h1⟩:=h;have e:Int.fdiv x (2^(min (4:Int).toNat (IntKind.bits .u8)))=((x.toNat/16:Nat):Int):=by
    show Int.fdiv x 16=_;rw [Int.fdiv_eq_ediv_of_nonneg _ (by decide)];omega
  rw [e,Zi (n:=((x.toNat/16:Nat):Int)) (by omega) (by omega),Zi (by omega) (by omega)];omega
def Znt (H H':Heap) (v:Value):Option Sg->Prop
  | none=>v= .tuple ⟨[.agg ⟨sgL noSg none 0 0⟩,.int .i64 110]⟩
  | some s=>∃a c,v= .tuple ⟨[.agg ⟨sgL s a s.data.length c⟩,.int .i64 0]⟩∧Sh.Own H H' a s.data.length c 1 Zh (bv s.data)
theorem Zuy {x y:Nat} (hx:x<4294967296) (hy:y<4294967296) (hr:Reads H a n (bv l)) (hl:AllB l) (hc:n <= c) (hn:n <= 400000):FnW Tryz.prog Zmc ⟨[.int .u32 x,.int .u32 y,.slice a n c]⟩ H fun v H'=>Znt H H' v (Zcd x y l)∧Keep Nil H H':=by
  have hln:l.length=n:=by have:=hr.len;simpa using this
  refine Zcje x y a n c ?_;unfold Zbpl;refine newB fun b H1 hb b1 k1=>?_;have r1:=hr.keep k1 fun _ _ h=>h;have bad: ∀{Hx:Heap} {vs:List Value},Zcd x y l=none->Keep Nil H Hx->(∃v0 v1 v2 v3 v4 v5 v6 v7 v8,Blk Hx b Zm ⟨[v0,v1,v2,v3,v4,v5,v6,v7,v8]⟩)->
      Za Hx ⟨b,0,none⟩ (.int .i64 0) fun H2=>Za H2 ⟨b,1,none⟩ (.int .i64 0) fun H3=>Za H3 ⟨b,2,none⟩ (.int .u32 0) fun H4=>Za H4 ⟨b,3,none⟩ (.int .u32 0) fun H5=>Za H5 ⟨b,4,none⟩ (.int .i64 0) fun H6=>Za H6 ⟨b,5,none⟩ (.int .i64 0) fun H7=>Za H7 ⟨b,6,none⟩ (.int .i64 0) fun H8=>Za H8 ⟨b,7,none⟩ (.int .i64 0) fun H9=>Za H9 ⟨b,8,none⟩ (.slice none 0 0) fun H10=>
      ∃r0:Int,H10.cell ⟨b,0,none⟩=some (.int .i64 r0)∧∃r1:Int,H10.cell ⟨b,1,none⟩=some (.int .i64 r1)∧∃r2:Int,H10.cell ⟨b,2,none⟩=some (.int .u32 r2)∧∃r3:Int,H10.cell ⟨b,3,none⟩=some (.int .u32 r3)∧
      ∃r4:Int,H10.cell ⟨b,4,none⟩=some (.int .i64 r4)∧∃r5:Int,H10.cell ⟨b,5,none⟩=some (.int .i64 r5)∧∃r6:Int,H10.cell ⟨b,6,none⟩=some (.int .i64 r6)∧∃r7:Int,H10.cell ⟨b,7,none⟩=some (.int .i64 r7)∧
      ∃(ra:Option Addr) (rn rc:Nat),H10.cell ⟨b,8,none⟩=some (.slice ra rn rc)∧∀H2,Shut H H10 H2->Znt H H2 (.tuple ⟨[.agg ⟨[.int .i64 r0,.int .i64 r1,.int .u32 r2,.int .u32 r3,.int .i64 r4,.int .i64 r5,.int .i64 r6,.int .i64 r7,.slice ra rn rc]⟩,.int .i64 110]⟩) (Zcd x y l)∧Keep Nil H H2:=by
    rintro Hx vs e kx ⟨v0,v1,v2,v3,v4,v5,v6,v7,v8,bx⟩;rw [e];refine st9 (s:=noSg) (a:=none) (n:=0) (c:=0) bx fun H' b' k'=>ld9 (s:=noSg) (a:=none) (n:=0) (c:=0) b' fun H2 hs=>⟨rfl,Zk (kx.then k' fun y hy=> .inr (hy▸hb)) hs⟩
  have nine: ∀{Hx:Heap},Keep Nil H1 Hx->∃v0 v1 v2 v3 v4 v5 v6 v7 v8,Blk Hx b Zm ⟨[v0,v1,v2,v3,v4,v5,v6,v7,v8]⟩:=fun kx=>⟨_,_,_,_,_,_,_,_,_,kx.blk b1 id⟩;refine IfB.intro (fun e=>bad (vs:=[]) ?_ k1 (nine (Keep.refl _ _))) fun e=>?_;have:=of_decide_eq_true e;unfold Zcd;rw [if_pos (.inl (by omega))]
  have h20:20 <= n:=by have:=of_decide_eq_false e;omega
  have g12:=hl.get (show 12<l.length by omega)
  have hsz:=Zcbd g12;have hsB:4*((l.getD 12 0).toNat/16)=Zu l:=rfl;have hs64:Zu l <= 60:=by obtain ⟨q0,q1⟩:=g12;unfold Zu;omega
  rw [hsB] at hsz;have j0: ∀(z:Bool) (H2:Heap),Keep Nil H1 H2->(z=true↔(Zu l<20∨l.length<Zu l∨Zcr x y l≠65535))->Znn a n c b (l.getD 12 0) z H2 fun v H1=>∀H2,Shut H H1 H2->Znt H H2 v (Zcd x y l)∧Keep Nil H H2:=by
    intro z H2 k2 hz;unfold Znn;have k02:=k1.trans k2;refine IfB.intro (fun e=>bad (vs:=[]) ?_ k02 (nine k2)) fun e=>?_;have:=hz.1 e;unfold Zcd;rw [if_pos (.inr this)];have hz0: ¬(Zu l<20∨l.length<Zu l∨Zcr x y l≠65535):=fun h=>by rw [hz.2 h] at e;cases e
    have hrd:Zcd x y l=(Zbj (Zu l) ((l.drop 20).take (Zu l - 20)) 0).map (segB l):=by unfold Zcd;rw [if_neg (fun h=>h.elim (by omega) hz0)]
    rw [hsz];have r2:=r1.keep k2 fun _ _ h=>h;have rt:Reads H2 (if c=20 then a else Option.map (fun x=>Addr.add x (20*1)) a) (Zu l - 20) (bv ((l.drop 20).take (Zu l - 20))):=by
      have h1:=r2.take (m:=Zu l) (by omega)
      have e1:(bv l).take (Zu l)=bv (l.take (Zu l)):=by simp [bv,List.map_take]
      rw [e1] at h1;have h2:=Zio (c:=c) h1 (k:=20) (by omega) (by omega)
      rw [List.drop_take] at h2;exact h2
    refine InC.intro (Zu l) rfl (by omega) (InC.intro 20 rfl (by omega) ((Zbvf rt ((hl.drop 20).take _) (by omega) (by omega)).mono ?_))
    rintro _ _ ⟨rfl,e⟩;rw [e];clear e;have hfu:Zbj (Zu l - 20+1) ((l.drop 20).take (Zu l - 20)) 0=Zbj (Zu l) ((l.drop 20).take (Zu l - 20)) 0:=Zyz _ _ _ _ (by simp;omega) (by simp;omega)
    rw [hfu];cases hg:Zbj (Zu l) ((l.drop 20).take (Zu l - 20)) 0 with
    | none=>
      rw [hg] at hrd;exact ⟨_,_,rfl,ifT rfl (bad (vs:=[]) hrd k02 (nine k2))⟩
    | some g=>
      rw [hg] at hrd;have hrd:Zcd x y l=some (segB l g):=hrd;refine ⟨_,_,rfl,ifF rfl ?_⟩;cases a with
      | none=>have:=hr.2;simp only at this;omega
      | some a=>
        have hlive:H2 a.block≠none:=by
          obtain ⟨_,cs,T,fr,hb2,_⟩:=r2.2 (by omega)
          rw [hb2];simp
        have hsp:a.spot=none:=(r2.2 (by omega)).1
        obtain ⟨kp1,kp0⟩:=Zcq hlive;have kp: ∀{Hx:Heap},Keep Nil H2 Hx->Zb [a.block] H2 Hx:=fun kx y hy=>by rw [List.mem_singleton.1 hy];obtain ⟨o,ho⟩:=kp1 a.block (List.mem_singleton.2 rfl);exact ⟨⟨o,ho⟩,kx.same _ id hlive⟩
        have g13:=hl.get (show 13<l.length by omega)
        have fin: ∀(q:Nat) (Hx:Heap),H2 q=none->Blk Hx q Zh ⟨[]⟩->Keep Nil H2 Hx->Zbhm b [a.block] H2 (Zy l 0:Nat) (Zy l 2:Nat) (Zdp l 4:Nat) (Zdp l 8:Nat) (IntKind.wrap .i64 (Zbc .u8 (l.getD 13 0) 63)) (Zy l 14:Nat) (Zy l 18:Nat) g
            (.slice (if c=Zu l then some a else Option.map (fun x=>Addr.add x (Zu l*1)) (some a)) (n - Zu l) (c - Zu l)) q Hx fun v H1=>∀H2,Shut H H1 H2->Znt H H2 v (Zcd x y l)∧Keep Nil H H2:=by
          intro q Hx hq2 bq kx;unfold Zbhm;have hq:H q=none:=k02.free hq2;have rx:=r2.keep kx fun _ _ h=>h;have kHx:=k02.trans kx;refine Zgt (xs:=[]) (new:=l.drop (Zu l)) (Sh.Own.start hq bq) kHx (Zio rx (k:=Zu l) (by omega) hc) (by omega) fun a' c' H3 o3 ha3 k3 k03=>⟨_,_,_,rfl,?_,?_⟩
          exact kp (kx.then k3 fun y hy=> .inr (by cases hy;exact hq2))
          have hbq: ∀y,(some ⟨q,0,none⟩:Option Addr)=some ⟨y,0,none⟩->y=q:=fun y e=>by cases e;rfl
          obtain ⟨v0,v1,v2,v3,v4,v5,v6,v7,v8,b2⟩:=nine (k2.trans kx);have hbn: ¬b=q:=fun e=>(by subst e;exact absurd (Zcl b2 bq) (by decide))
          have b3:=k3.blk b2 fun e=>hbn (by cases e;rfl)
          rw [Nat.zero_add,List.nil_append] at o3;rw [Nat.zero_add,Zbsv g13];have hseg:(segB l g).data=l.drop (Zu l):=rfl;have hdl:(l.drop (Zu l)).length=n - Zu l:=by rw [List.length_drop,hln]
          refine st9 (s:=segB l g) (a:=a') (n:=n - Zu l) (c:=c') b3 fun H4 b4 k4=>ld9 (s:=segB l g) (a:=a') (n:=n - Zu l) (c:=c') b4 fun H5 hs=>?_;rw [hrd];refine ⟨⟨a',c',?_,?_⟩,Zk (k03.then k4 fun y hy=> .inr (hy▸hb)) hs⟩;rw [hseg,hdl];rw [hseg,hdl];refine Zbn (o3.keep k4 fun y hy e=>?_) hs;have:=o3.live hy;subst e;obtain ⟨cs,h5⟩:=this;exact absurd (Zcl h5 b3) (by decide)
        have G0: ∀{Hx:Heap} {K:Int->Heap->Prop},Keep Nil H2 Hx->K (Zy l 0:Nat) Hx->FnW Tryz.prog Zbu ⟨[.slice (some a) n c]⟩ Hx fun v H=>∃x:Int,v= .int .i64 x∧Zb [a.block] H2 H∧K x H:=by
          intro Hx K kx h;refine (Zyw (r2.keep kx fun _ _ h=>h) hl (by omega)).mono ?_
          rintro _ _ ⟨rfl,e⟩;rw [e];exact ⟨_,rfl,kp kx,h⟩
        have G: ∀(k:Nat) {Hx:Heap} {K:Int->Heap->Prop},k+2 <= n->Keep Nil H2 Hx->K (Zy l k:Nat) Hx->FnW Tryz.prog Zbu ⟨[.slice (if c=k then some a else Option.map (fun x=>Addr.add x (k*1)) (some a)) (n - k) (c - k)]⟩ Hx fun v H=>∃x:Int,v= .int .i64 x∧Zb [a.block] H2 H∧K x H:=by intro k Hx K hk kx h;refine (Zyv (r2.keep kx fun _ _ h=>h) hl hk hc).mono ?_;rintro _ _ ⟨rfl,e⟩;rw [e];exact ⟨_,rfl,kp kx,h⟩
        have G4: ∀(k:Nat) {Hx:Heap} {K:Int->Heap->Prop},k+4 <= n->Keep Nil H2 Hx->K (Zdp l k:Nat) Hx->FnW Tryz.prog Zeb ⟨[.slice (if c=k then some a else Option.map (fun x=>Addr.add x (k*1)) (some a)) (n - k) (c - k)]⟩ Hx fun v H=>∃x:Int,v= .int .u32 x∧Zb [a.block] H2 H∧K x H:=by intro k Hx K hk kx h;refine (Zbvd (r2.keep kx fun _ _ h=>h) hl hk hc).mono ?_;rintro _ _ ⟨rfl,e⟩;rw [e];exact ⟨_,rfl,kp kx,h⟩
        have kr:=Keep.refl Nil H2;refine ⟨[a.block],kp1,NilP.intro _ rfl (InB.intro 13 rfl (by omega) ?_)⟩
        obtain ⟨ab,ao,sp⟩:=a;simp only at hsp;subst hsp;rw [Zw];refine ⟨List.mem_singleton.2 rfl,_,by have:=r2.cell (j:=13) (by omega);simpa [bv,List.getElem?_map,List.getElem?_eq_getElem (show 13<l.length by omega)] using this,InC.intro 2 rfl (by omega) (InC.intro 4 rfl (by omega) (InC.intro 8 rfl (by omega) (InC.intro 14 rfl (by omega) (InC.intro 18 rfl (by omega) (InC.intro (Zu l) rfl (by omega) ?_)))))⟩
        have e13:l[13]'(by omega)=l.getD 13 0:=by rw [List.getD_eq_getElem?_getD,List.getElem?_eq_getElem (by omega)];rfl
        rw [e13];refine ⟨newB fun q Hx hq bq kx=>G0 kx (G 2 (by omega) kx (G4 4 (by omega) kx (G4 8 (by omega) kx (G 14 (by omega) kx (G 18 (by omega) kx (fin q Hx hq bq kx)))))),G0 kr ⟨newB fun q Hx hq bq kx=>G 2 (by omega) kx (G4 4 (by omega) kx (G4 8 (by omega) kx (G 14 (by omega) kx (G 18 (by omega) kx (fin q Hx hq bq kx))))),G 2 (by omega) kr ⟨newB fun q Hx hq bq kx=>G4 4 (by omega) kx (G4 8 (by omega) kx (G 14 (by omega) kx (G 18 (by omega) kx (fin q Hx hq bq kx)))),G4 4 (by omega) kr ⟨newB fun q Hx hq bq kx=>G4 8 (by omega) kx (G 14 (by omega) kx (G 18 (by omega) kx (fin q Hx hq bq kx))),G4 8 (by omega) kr ⟨newB fun q Hx hq bq kx=>G 14 (by omega) kx (G 18 (by omega) kx (fin q Hx hq bq kx)),G 14 (by omega) kr ⟨newB fun q Hx hq bq kx=>G 18 (by omega) kx (fin q Hx hq bq kx),G 18 (by omega) kr (newB fun q Hx hq bq kx=>fin q Hx hq bq kx)⟩⟩⟩⟩⟩⟩
  refine byte_at r1 (i:=12) rfl (by omega) ⟨by decide,?_⟩
  rw [hsz];refine IfB.intro (fun e=>j0 true H1 (Keep.refl _ _) ⟨fun _=> .inl (by have:=of_decide_eq_true e;omega),fun _=>rfl⟩) fun e=>IfB.intro (fun e2=>j0 true H1 (Keep.refl _ _) ⟨fun _=> .inr (.inl (by have:=of_decide_eq_true e2;omega)),fun _=>rfl⟩) fun e2=>(Zbix hx hy r1 hl (by omega)).mono ?_
  rintro _ H2 ⟨rfl,k2⟩;refine ⟨_,rfl,j0 _ H2 k2 ?_⟩;have e:=of_decide_eq_false e;have e2:=of_decide_eq_false e2;rw [bne_iff_ne];omega
end
end Go.Proofs.YtaljkjokbdpdoaaGreat
end
section
set_option maxRecDepth 100000
namespace Go.Proofs.YtaljkjokbdpdoaaGreat
open Go.Sh Go.Pc Go.Conn
def kvK (k:Key):Value:= .agg ⟨[.int .u32 k.1,.int .i64 k.2.1,.int .i64 k.2.2]⟩
abbrev kvI (i:Int):Value:= .int .i64 i
theorem Zbwd (a b c a' b' c':Int):Zfj Tryz.prog 6 Zeo (.agg ⟨[.int .u32 a,.int .i64 b,.int .i64 c]⟩) (.agg ⟨[.int .u32 a',.int .i64 b',.int .i64 c']⟩)=some ((a==a')&&((b==b')&&((c==c')&&true))):=by kernel_rfl
theorem Zbwc (a b c:Int) (e:Bool) (H:Heap) (K:Unit->Heap->Prop):SemW Tryz.prog (Instr.checkKey e 10000 Zeo (.agg ⟨[.int .u32 a,.int .i64 b,.int .i64 c]⟩)) H K=K () H:=by kernel_rfl
theorem keyK:KeyTy Tryz.prog Zeo kvK:=by
  refine ⟨fun ⟨a,b,c⟩ e H K h=>?_,fun ⟨a,b,c⟩ ⟨a',b',c'⟩=>?_,fun ⟨a,b,c⟩ ⟨a',b',c'⟩ d r _ h=>?_,?_⟩;show SemW Tryz.prog (Instr.checkKey e 10000 Zeo (.agg ⟨[.int .u32 a,.int .i64 b,.int .i64 c]⟩)) H K;rw [Zbwc];exact h;show Zfj Tryz.prog 6 Zeo (.agg ⟨[.int .u32 a,.int .i64 b,.int .i64 c]⟩) (.agg ⟨[.int .u32 a',.int .i64 b',.int .i64 c']⟩)=_;rw [Zbwd];congr 1;rw [Bool.eq_iff_iff];simp;unfold kvK at h;cases d<;>simp [Instr.sameNow] at h
  . have:(Tryz.prog.underlying Zeo).isSome=true:=by kernel_rfl
    exact Option.isSome_iff_exists.1 this
theorem keyI:KeyTy Tryz.prog Zl kvI:=Zbwf (by kernel_rfl)
theorem Zbjo: ∃it,Tryz.prog.info? Zja=some it∧it.zero=some (.pointer none):=by
  have h:(Tryz.prog.info? Zja).map (fun i=>i.zero)=some (some (.pointer none)):=by kernel_rfl
  cases hi:Tryz.prog.info? Zja with
  | none=>rw [hi] at h;cases h
  | some it=>
    rw [hi] at h;exact ⟨it,rfl,Option.some.inj h⟩
theorem mapK:MapG Tryz.prog Zfd Zeo Zja (.pointer none):=⟨by kernel_rfl,Zbjo⟩
theorem mapI:MapG Tryz.prog Zdy Zl Zja (.pointer none):=⟨by kernel_rfl,Zbjo⟩
structure EnB where
  e:En
  ob:Nat
  cb:Nat
  F:Nat->Prop
def EnB.own (x:EnB):Nat->Prop:=fun y=>y=x.ob∨x.F y
def ptrO (x:EnB):Value:= .pointer (some ⟨x.ob,0,none⟩)
def oneL (e:En) (cb:Nat):List Value:=[.int .u32 e.k.1,.int .i64 e.k.2.1,.int .i64 e.k.2.2,.int .i64 e.id,.pointer (some ⟨cb,0,none⟩)]
structure OneAt (H:Heap) (now:Int) (x:EnB):Prop where
  blk:Blk H x.ob Zve ⟨oneL x.e x.cb⟩
  con:CAt H x.cb x.F x.e.c now
  ne: ¬x.F x.ob
structure Ents {κ:Type} (es:List (Gv κ)) (ck:Nat) (ks:List (κ×Value)):Prop where
  born: ∀e∈es,e.2.2<ck
  nodup:(es.map (·.2.2)).Nodup
  pairs:es.map (fun e=>(e.1,e.2.1))=ks
structure StP where
  bm:Nat
  im:Nat
  pa:Option Addr
  pc:Nat
  L:List EnB
def stL7 (S:Stk) (p:StP):List Value:=[.int .u32 S.me,.int .u32 S.seed,.slice p.pa S.ports.length p.pc,.map (some p.bm),.map (some p.im),.int .i64 S.count,.int .i64 S.now]
def StP.top (p:StP) (sb:Nat):Nat->Prop:=fun y=>y=sb∨y=p.bm∨y=p.im∨p.pa=some ⟨y,0,none⟩
def StP.G (p:StP) (sb:Nat):Nat->Prop:=fun y=>p.top sb y∨∃x∈p.L,x.own y
structure StRep (H:Heap) (sb:Nat) (p:StP) (S:Stk):Prop where
  ok:S.Ok
  blk:Blk H sb Zvd ⟨stL7 S p⟩
  ports:Sh.Own emp H p.pa S.ports.length p.pc 1 Zl (S.ports.map (Value.int .i64))
  m1: ∃es ck,MapB kvK H p.bm es ck∧Ents es ck (p.L.map fun x=>(x.e.k,ptrO x))
  m2: ∃es ck,MapB kvI H p.im es ck∧Ents es ck (p.L.map fun x=>((x.e.id:Int),ptrO x))
  l:p.L.map (·.e)=S.l
  ones: ∀x∈p.L,OneAt H S.now x
  bi:p.bm≠p.im
  apart: ∀x∈p.L,∀y,x.own y->¬p.top sb y
  pw:p.L.Pairwise fun x z=>∀y,x.own y->¬z.own y
section
variable {H H':Heap} {sb:Nat} {p:StP} {S:Stk}
theorem OneAt.live {now:Int} {x:EnB} (h:OneAt H now x) {y:Nat} (hy:x.own y):H y≠none:=by rcases hy with rfl | hy;exact h.blk.some;obtain ⟨q,n,d,h1,h2,h3,h4⟩:=h.con.ex;rw [← h4] at hy;exact h1.live hy
theorem OneAt.keep {now:Int} {x:EnB} {Z:Nat->Prop} (h:OneAt H now x) (k:Keep Z H H') (hz: ∀y,x.own y->¬Z y):OneAt H' now x:=by refine ⟨k.blk h.blk (hz _ (.inl rfl)),?_,h.ne⟩;obtain ⟨q,n,d,h1,h2,h3,h4⟩:=h.con.ex;exact ⟨q,n,d,h1.keep k fun y hy=>hz y (.inr (by rw [← h4];exact hy)),h2,h3,h4⟩
theorem OneAt.later {now now':Int} {x:EnB} (h:OneAt H now x) (hn:now <= now'):OneAt H now' x:=by refine ⟨h.blk,?_,h.ne⟩;obtain ⟨q,n,d,h1,h2,h3,h4⟩:=h.con.ex;exact ⟨q,n,d,h1,Int.le_trans h2 hn,h3,h4⟩
theorem Zbha {a:Option Addr} {n c s:Nat} {T:TypeId} {xs:List Value} (h:Sh.Own emp H a n c s T xs) {y:Nat} (hy:a=some ⟨y,0,none⟩): ∃cs,Blk H y T cs:=h.live hy
theorem StRep.top_live (h:StRep H sb p S) {y:Nat} (hy:p.top sb y):H y≠none:=by rcases hy with rfl | rfl | rfl | hy;exact h.blk.some;obtain ⟨es,ck,m,_⟩:=h.m1;exact m.some;obtain ⟨es,ck,m,_⟩:=h.m2;exact m.some;obtain ⟨cs,b⟩:=Zbha h.ports hy;exact b.some
theorem StRep.live (h:StRep H sb p S) {y:Nat} (hy:p.G sb y):H y≠none:=by rcases hy with hy | ⟨x,hx,hy⟩;exact h.top_live hy;exact (h.ones x hx).live hy
theorem StRep.keep {Z:Nat->Prop} (h:StRep H sb p S) (k:Keep Z H H') (hz: ∀y,p.G sb y->¬Z y):StRep H' sb p S:=by
  have hT: ∀y,p.top sb y->¬Z y:=fun y hy=>hz y (.inl hy);obtain ⟨es,ck,m,e⟩:=h.m1;obtain ⟨es2,ck2,m2,e2⟩:=h.m2;exact ⟨h.ok,k.blk h.blk (hT _ (.inl rfl)),h.ports.keep k fun y hy=>hT y (.inr (.inr (.inr hy))),⟨es,ck,m.keep k (hT _ (.inr (.inl rfl))),e⟩,⟨es2,ck2,m2.keep k (hT _ (.inr (.inr (.inl rfl)))),e2⟩,h.l,
    fun x hx=>(h.ones x hx).keep k fun y hy=>hz y (.inr ⟨x,hx,hy⟩),h.bi,h.apart,h.pw⟩
theorem Zbaz {κ:Type} [DecidableEq κ] {kv:κ->Value} {H0:Heap} {b ck:Nat} {es:List (Gv κ)} (h:MapB kv H b es ck) (hs:Shut H0 H H'):MapB kv H' b es ck:=by rcases hs b with e | ⟨_,e,_⟩;exact h.same e;unfold MapB at h;rw [h] at e;cases e
theorem StRep.shut {H0:Heap} (h:StRep H sb p S) (hs:Shut H0 H H'):StRep H' sb p S:=by obtain ⟨es,ck,m,e⟩:=h.m1;obtain ⟨es2,ck2,m2,e2⟩:=h.m2;refine ⟨h.ok,Zcb h.blk hs,Zbn h.ports hs,⟨es,ck,Zbaz m hs,e⟩,⟨es2,ck2,Zbaz m2 hs,e2⟩,h.l,fun x hx=>?_,h.bi,h.apart,h.pw⟩;have h:=h.ones x hx;refine ⟨Zcb h.blk hs,?_,h.ne⟩;obtain ⟨q,n,d,h1,h2,h3,h4⟩:=h.con.ex;exact ⟨q,n,d,h1.shut hs,h2,h3,h4⟩
theorem Zqr (h:StRep H sb p S):FnW Tryz.prog Zjj ⟨[.pointer (some ⟨sb,0,none⟩)]⟩ H fun v H'=>v= .bool true∧H'=H:=by
  refine Zcdw sb ?_;unfold Zbke;refine ⟨_,cellL h.blk 3 rfl,?_⟩;have e: ∀(b:Nat) (H:Heap) (K:Value->Heap->Prop),BinW Tryz.prog true .neq Zfd (.map (some b)) (.map none) H K=K (.bool true) H:=fun b H K=>by kernel_rfl
  rw [e];exact fun H2 hs=>⟨rfl,(Zf hs).symm⟩
theorem Zbbg {z:Int}:FnW Tryz.prog Zlo ⟨[.int .i64 z]⟩ H fun v H'=>v= .bool (Zbf z)∧H'=H:=by
  refine Zcej z ?_;unfold Zbkv;refine IfB.intro (fun h H2 hs=>⟨?_,(Zf hs).symm⟩) fun h H2 hs=>⟨?_,(Zf hs).symm⟩;have h:=of_decide_eq_true h;unfold Zbf;rw [decide_eq_true (by omega:(1:Int) <= z),Bool.true_and]
  have h:=of_decide_eq_false h;unfold Zbf;rw [decide_eq_false (by omega: ¬(1:Int) <= z),Bool.false_and]
theorem Zbgh (h:StRep H sb p S) {now:Int} (hn:S.now <= now):FnW Tryz.prog Zot ⟨[.pointer (some ⟨sb,0,none⟩),.int .i64 now]⟩ H fun v H'=>v= .int .i64 0∧H'=H:=by refine Zcfc sb now ?_;unfold Zbln;refine (Zqr h).mono ?_;rintro _ _ ⟨rfl,e⟩;rw [e];exact ⟨_,rfl,ifF rfl ⟨_,cellL h.blk 6 rfl,ifF (decide_eq_false (by omega)) fun H2 hs=>⟨rfl,(Zf hs).symm⟩⟩⟩
theorem Zbex (h:StRep H sb p S) (hc:S.count<1000000):FnW Tryz.prog Zou ⟨[.pointer (some ⟨sb,0,none⟩)]⟩ H fun v H'=>v= .int .u32 S.first∧H'=H:=by
  refine Zcfd sb ?_;unfold Zblo;refine ⟨_,cellL h.blk 1 rfl,_,cellL h.blk 5 rfl,?_⟩;have w:IntKind.wrap .i64 (64000*(IntKind.wrap .i64 ((S.count:Int)+1)))=((64000*(S.count+1):Nat):Int):=by
    rw [Zi (n:=(S.count:Int)+1) (by omega) (by omega),Zi (by omega) (by omega)];omega
  rw [w];refine (Zee h.ok.seed).mono ?_;rintro _ _ ⟨rfl,e⟩;rw [e];exact ⟨_,rfl,fun H2 hs=>⟨rfl,(Zf hs).symm⟩⟩
theorem index_spec {a:Option Addr} {n c:Nat} {l:List Int} (hr:Reads H a n (l.map (Value.int .i64))) (hn:n <= 1000000) (z:Int):FnW Tryz.prog Zoy ⟨[.slice a n c,.int .i64 z]⟩ H fun v H'=>v= .bool (l.contains z)∧H'=H:=by
  have hl:l.length=n:=by have:=hr.len;simpa using this
  refine Zcfl a n c z ?_;unfold Zbls;refine FnW.mono (R:=fun v H'=>(∃i:Int,v= .int .i64 i∧(decide (i≥0))=l.contains z)∧H'=H) ?_ ?_
  . refine Zceo a n c z ?_;unfold Zbla;refine Zbo (fun k s H'=>H'=H∧∃i:Nat,s=((i:Int),())∧k+i=n∧(l.take i).contains z=false) n ⟨rfl,0,rfl,by omega,by simp⟩ ?_
    rintro k s H' ⟨e,i,rfl,hk,hni⟩ g;rw [e];clear e H';unfold Zbkz;refine IfB.intro (fun h=>?_) fun h H2 hs=>⟨⟨_,rfl,?_⟩,(Zf hs).symm⟩
    . have h:=of_decide_eq_true h;simp only at h;cases a with
      | none=>have:=hr.2;simp only at this;omega
      | some a=>
        have hsp:=(hr.2 (by omega)).1
        have hc:=hr.cell (j:=i) (by omega)
        obtain ⟨ab,ao,sp⟩:=a;simp only at hsp;subst hsp;refine NilP.intro _ rfl (InB.intro i rfl (by omega) ?_)
        rw [Zw,Nat.mul_one];have hg:l[i]? =some (l[i]'(by omega)):=List.getElem?_eq_getElem (by omega)
        rw [List.getElem?_map,hg] at hc;refine ⟨_,hc,IfB.intro (fun e H2 hs=>⟨⟨_,rfl,?_⟩,(Zf hs).symm⟩) fun e=>?_⟩
        . have e:z=l[i]'(by omega):=eq_of_beq e
          have:l.contains z=true:=by rw [List.contains_iff_mem,e];exact List.getElem_mem _
          rw [this];simp
        . have e: ¬z=l[i]'(by omega):=fun x=>by rw [beq_iff_eq.2 x] at e;cases e
          refine ⟨k - 1,by omega,rfl,i+1,?_,by omega,?_⟩
          . rw [Zi (by omega) (by omega)];rfl
          rw [List.take_succ,hg];simp only [Option.toList_some,List.contains_append,hni,Bool.false_or];simpa using e
    . have h:=of_decide_eq_false h;simp only at h;rw [List.take_of_length_le (by omega)] at hni
      rw [hni];rfl
  rintro _ _ ⟨⟨i,rfl,hi⟩,e⟩;rw [e];exact ⟨_,rfl,fun H2 hs=>⟨by rw [hi],(Zf hs).symm⟩⟩
theorem Zbur (h:StRep H sb p S) {s:Sg} {a:Option Addr} {n c:Nat} (h0:0 <= s.flags) (h1:s.flags<64) (hn:s.data.length=n) (hl:n <= 1000000):
    FnW Tryz.prog Zww ⟨[.pointer (some ⟨sb,0,none⟩),.agg ⟨sgL s a n c⟩]⟩ H fun v H'=>v= .bool (S.dials s)∧Keep Nil H H':=by
  refine Zcgt sb _ _ _ _ _ _ _ _ a n c ?_;unfold Zbms;refine newB fun q H1 hq b1 k1=>?_;have h1':=h.keep k1 fun _ _ h=>h;have hr:Reads H1 p.pa S.ports.length (S.ports.map (Value.int .i64)):=by have:=h1'.ports.reads;rwa [Nat.mul_one] at this
  have bits:(Zbc .i64 s.flags 23==2)=(s.syn&& !s.fin&& !s.rst&& !s.acks):=by
    have key:((List.range 64).all fun f=>(Zbc .i64 (f:Int) 23==2)==(bitB f 1&& !bitB f 0&& !bitB f 2&& !bitB f 4))=true:=by kernel_rfl
    have h:=List.all_eq_true.1 key s.flags.toNat (List.mem_range.2 (by omega))
    have e:((s.flags.toNat:Nat):Int)=s.flags:=by omega
    rw [e] at h;exact beq_iff_eq.1 h
  refine ⟨_,_,_,cellL h1'.blk 2 rfl,_,cellL b1 1 rfl,(index_spec hr (by have:=h.ok.nports;omega) _).mono ?_⟩
  rintro _ _ ⟨rfl,e⟩;rw [e];clear e;refine ⟨_,rfl,IfB.intro (fun e1=>ld9 b1 ((Znu h0 h1 hn hl).mono ?_)) fun e1 H2 hs=>⟨by unfold Stk.dials;rw [e1];rfl,Zk k1 hs⟩⟩
  rintro _ H2 ⟨rfl,k2⟩;have b2:=k2.blk b1 id;have kk:=k1.trans k2;refine ⟨_,rfl,IfB.intro (fun e2=>⟨_,cellL b2 0 rfl,Zbbg.mono ?_⟩) fun e2 H3 hs=>⟨?_,Zk kk hs⟩⟩
  . have e2:(s.span:Int)=1:=eq_of_beq e2;rintro _ _ ⟨rfl,e⟩;rw [e];refine ⟨_,rfl,IfB.intro (fun e3=>⟨_,cellL b2 4 rfl,fun H3 hs=>⟨?_,Zk kk hs⟩⟩) fun e3 H3 hs=>⟨?_,Zk kk hs⟩⟩
    . unfold Stk.dials;rw [e1,decide_eq_true (show s.span=1 by omega),e3,bits];rfl
    . unfold Stk.dials;rw [e1,decide_eq_true (show s.span=1 by omega),e3];rfl
  . have e2: ¬s.span=1:=fun z=>by rw [z] at e2;cases e2
    unfold Stk.dials;rw [e1,decide_eq_false e2];rfl
end
end Go.Proofs.YtaljkjokbdpdoaaGreat
end
section
set_option maxRecDepth 100000
namespace Go.Sh
theorem MkG {P:Program} {t:TypeId} {H:Heap} {K:Value->Heap->Prop} (h: ∀n,H n=none->K (.map (some n)) (H.upd n (.map ⟨[]⟩ 0))):MkW P t H K:=by unfold MkW;refine (SemW.bind _ _ _ _).2 ?_;unfold Instr.makeMap;exact fun n hn=>h n hn
end Go.Sh
namespace Go.Proofs.YtaljkjokbdpdoaaGreat
open Go.Sh Go.Pc Go.Conn
def outL (to:Nat):List (List Int×Option Addr×Nat)->List Value
  | []=>[]
  | x::xs=> .int .u32 to:: .slice x.2.1 x.1.length x.2.2::outL to xs
theorem Zbgv (to:Nat): ∀xs ys,outL to (xs++ys)=outL to xs++outL to ys
  | [],_=>rfl
  | x::xs,ys=>by simp only [List.cons_append,outL,Zbgv to xs ys]
abbrev Rw:=List Int×Option Addr×Nat
def RwAt (H0 H:Heap) (x:Rw):Prop:=Sh.Own H0 H x.2.1 x.1.length x.2.2 1 Zh (bv x.1)
structure OutRow (H0 H:Heap) (v:Value) (to:Nat) (bs:List (List Int)):Prop where
  ex: ∃a c xs,v= .slice a xs.length c∧xs.map (·.1)=bs∧Sh.Own H0 H a xs.length c 2 Zen (outL to xs)∧∀x∈xs,RwAt H0 H x
theorem Zbxr: ∃it,Tryz.prog.info? Zen=some it∧it.size=2∧it.bytes=32:=by
  have h:(Tryz.prog.info? Zen).map (fun i=>(i.size,i.bytes))=some (2,32):=by kernel_rfl
  cases hi:Tryz.prog.info? Zen with
  | none=>rw [hi] at h;cases h
  | some it=>
    rw [hi] at h;simp only [Option.map_some,Option.some.injEq,Prod.mk.injEq] at h;exact ⟨it,rfl,h.1,h.2⟩
theorem Zbep: ∃it,Tryz.prog.info? Zbi=some it∧it.size=2∧it.bytes=16:=by
  have h:(Tryz.prog.info? Zbi).map (fun i=>(i.size,i.bytes))=some (2,16):=by kernel_rfl
  cases hi:Tryz.prog.info? Zbi with
  | none=>rw [hi] at h;cases h
  | some it=>
    rw [hi] at h;simp only [Option.map_some,Option.some.injEq,Prod.mk.injEq] at h;exact ⟨it,rfl,h.1,h.2⟩
theorem Zbvp: ∃it,Tryz.prog.info? Zl=some it∧it.size=1∧it.bytes=8:=by
  have h:(Tryz.prog.info? Zl).map (fun i=>(i.size,i.bytes))=some (1,8):=by kernel_rfl
  cases hi:Tryz.prog.info? Zl with
  | none=>rw [hi] at h;cases h
  | some it=>
    rw [hi] at h;simp only [Option.map_some,Option.some.injEq,Prod.mk.injEq] at h;exact ⟨it,rfl,h.1,h.2⟩
def evL:List (Int×Int)->List Value
  | []=>[]
  | x::xs=> .int .i64 x.1:: .int .i64 x.2::evL xs
theorem Zvy: ∀xs ys,evL (xs++ys)=evL xs++evL ys
  | [],_=>rfl
  | x::xs,ys=>by simp only [List.cons_append,evL,Zvy xs ys]
theorem Zvz: ∀xs,∀v∈evL xs,Zch v=true
  | [],_,h=>absurd h List.not_mem_nil
  | x::xs,v,h=>by simp only [evL,List.mem_cons] at h;rcases h with rfl | rfl | h;rfl;rfl;exact Zvz xs v h
structure EvRow (H0 H:Heap) (v:Value) (es:List (Int×Int)):Prop where
  ex: ∃a c,v= .slice a es.length c∧Sh.Own H0 H a es.length c 2 Zbi (evL es)
section
variable {H0 H H':Heap} {sb:Nat} {p:StP} {S:Stk}
theorem Zbsy {a xb:Option Addr} {n c k xc:Nat} {xs new:List (Int×Int)} {K:Value->Heap->Prop} {Z:Nat->Prop} (ho:Sh.Own H0 H a n c 2 Zbi (evL xs)) (k0:Keep Z H0 H) (hnew:Reads H xb (k*2) (evL new)) (hfit:n+k <= 1000000)
    (h: ∀a' cap' H',Sh.Own H0 H' a' (n+k) cap' 2 Zbi (evL (xs++new))->Keep (fun b=>a=some ⟨b,0,none⟩) H H'->Keep Z H0 H'->K (.slice a' (n+k) cap') H'):
    AppW Tryz.prog #[Zcc,Zcc] Zcc [.slice a n c,.slice xb k xc] H K:=by
  obtain ⟨it,h1,h2,h3⟩:=Zbep;refine Zgj (e:=Zbi) (xe:=Zbi) (z:=[.int .i64 0,.int .i64 0]) (by kernel_rfl) (by kernel_rfl) h1 h2 h3 (by decide) (by kernel_rfl) rfl ho k0 (new:=evL new) hnew (Zvz new) (by omega) fun a' cap' H' _ q1 q2 q3 q4=>?_
  rw [← Zvy] at q1;exact h a' cap' H' q1 q3 q4
theorem Zoj {a:Option Addr} {n c:Nat} {xs:List (Int×Int)} {x y:Int} {K:Value->Heap->Prop} {Z:Nat->Prop} (ho:Sh.Own H0 H a n c 2 Zbi (evL xs)) (k0:Keep Z H0 H) (hn:n <= 100)
    (h: ∀a' cap' H',Sh.Own H0 H' a' (n+1) cap' 2 Zbi (evL (xs++[(x,y)]))->Keep (fun b=>a=some ⟨b,0,none⟩) H H'->Keep Z H0 H'->K (.slice a' (n+1) cap') H'):
    NewW H (.cells ⟨[.int .i64 x,.int .i64 y]⟩ Zbi) fun q H1=>AppW Tryz.prog #[Zcc,Zcc] Zcc [.slice a n c,.slice (some ⟨q,0,none⟩) 1 1] H1 K:=by
  refine newB fun q H1 hq b1 k1=>?_;have hr:Reads H1 (some ⟨q,0,none⟩) (1*2) (evL [(x,y)]):=Reads.blk b1 rfl fun j hj=>by rw [Nat.zero_add,List.getElem?_toArray];rfl
  refine Zbsy (ho.keep k1 fun _ _ h=>h) (k0.then k1 fun _ h=>h.elim) hr (by omega) fun a' cap' H' q1 q2 q3=>h a' cap' H' q1 ⟨fun b hb hne=>?_,fun b hb=>q2.live b (k1.live b hb)⟩ q3
  rw [q2.same b hb (k1.live b hne),k1.same b id hne]
theorem Zbxs {to:Nat} {a:Option Addr} {n c:Nat} {xs:List Rw} {x:Rw} {K:Value->Heap->Prop} {Z:Nat->Prop} (ho:Sh.Own H0 H a n c 2 Zen (outL to xs)) (k0:Keep Z H0 H) (hn:n <= 10000)
    (h: ∀a' cap' H',Sh.Own H0 H' a' (n+1) cap' 2 Zen (outL to (xs++[x]))->Keep (fun b=>a=some ⟨b,0,none⟩) H H'->Keep Z H0 H'->K (.slice a' (n+1) cap') H'):
    NewW H (.cells ⟨[.int .u32 to,.slice x.2.1 x.1.length x.2.2]⟩ Zen) fun q H1=>AppW Tryz.prog #[Zjd,Zjd] Zjd [.slice a n c,.slice (some ⟨q,0,none⟩) 1 1] H1 K:=by
  refine newB fun q H1 hq b1 k1=>?_;have hr:Reads H1 (some ⟨q,0,none⟩) (1*2) (outL to [x]):=Reads.blk b1 rfl fun j hj=>by rw [Nat.zero_add,List.getElem?_toArray];rfl
  obtain ⟨it,h1,h2,h3⟩:=Zbxr;refine Zgj (e:=Zen) (xe:=Zen) (z:=[.int .u32 0,.slice none 0 0]) (by kernel_rfl) (by kernel_rfl) h1 h2 h3 (by decide) (by kernel_rfl) rfl (ho.keep k1 fun _ _ h=>h) (k0.then k1 fun _ h=>h.elim) (new:=outL to [x]) hr (fun v hv=>?_) (by omega) fun a' cap' H' _ q1 q2 q3 q4=>?_
  simp only [outL,List.mem_cons,List.not_mem_nil,or_false] at hv;rcases hv with rfl | rfl<;>rfl;rw [← Zbgv] at q1;refine h a' cap' H' q1 ⟨fun b hb hne=>?_,fun b hb=>q3.live b (k1.live b hb)⟩ q4;rw [q3.same b hb (k1.live b hne),k1.same b id hne]
structure SegO (H:Heap) (x:Sg×Option Addr×Nat):Prop where
  seq:x.1.seq<4294967296
  ack:x.1.ack<4294967296
  rd:Reads H x.2.1 x.1.data.length (bv x.1.data)
  ok:AllB x.1.data
theorem Zbip {a:Addr} {T:Nat}: ∀(xs:List (Sg×Option Addr×Nat)) (i:Nat) (x:Sg×Option Addr×Nat),xs[i]? =some x->∀j,j<9->(sgsL xs)[i*9+j]? =(sgL x.1 x.2.1 x.1.data.length x.2.2)[j]?
  | [],_,_,h,_,_=>by simp at h
  | y::ys,0,x,h,j,hj=>by simp only [List.getElem?_cons_zero,Option.some.injEq] at h;subst h;show (sgL y.1 y.2.1 y.1.data.length y.2.2++sgsL ys)[0*9+j]? =_;rw [List.getElem?_append_left (by show 0*9+j<9;omega),Nat.zero_mul,Nat.zero_add]
  | y::ys,i+1,x,h,j,hj=>by
    show (sgL y.1 y.2.1 y.1.data.length y.2.2++sgsL ys)[(i+1)*9+j]? =_;rw [List.getElem?_append_right (by show 9 <= (i+1)*9+j;omega)]
    have e:(i+1)*9+j - (sgL y.1 y.2.1 y.1.data.length y.2.2).length=i*9+j:=by show (i+1)*9+j - 9=_;omega
    rw [e];exact Zbip (a:=a) (T:=T) ys i x (by simpa using h) j hj
theorem RwAt.keep {x:Rw} {Z:Nat->Prop} (h:RwAt H0 H x) (k:Keep Z H H') (hz: ∀y,(∃c,Blk H y Zh c)->¬Z y):RwAt H0 H' x:=
  Sh.Own.keep h k fun y hy=>hz y (Sh.Own.live h hy)
theorem Zbgz (hb: ∃cs,Blk H sb Zvd ⟨.int .u32 S.me::cs⟩) (hme:S.me<4294967296) {to:Nat} (hto:to<4294967296) {a:Option Addr} {c:Nat} {xs:List (Sg×Option Addr×Nat)} (hr:Reads H a (xs.length*9) (sgsL xs)) (hx: ∀x∈xs,SegO H x) (hn:xs.length <= 5000):
    FnW Tryz.prog Zha ⟨[.pointer (some ⟨sb,0,none⟩),.int .u32 to,.slice a xs.length c]⟩ H fun v H'=>OutRow H H' v to (xs.map fun x=>outV S.me to x.1)∧Keep Nil H H':=by
  refine Zcjf sb to a _ c ?_;unfold Zbpn;refine Zbo (fun k s H'=>∃(i:Nat) (a':Option Addr) (c':Nat) (ys:List Rw),s=((a',i,c'),((i:Int),()))∧k+i=xs.length∧Keep Nil H H'∧Sh.Own H H' a' i c' 2 Zen (outL to ys)∧ys.map (·.1)=(xs.take i).map (fun x=>outV S.me to x.1)∧∀y∈ys,RwAt H H' y) xs.length ⟨0,none,0,[],rfl,rfl,Keep.refl _ _,Sh.Own.nil,by simp,fun y h=>by cases h⟩ ?_
  rintro k s H1 ⟨i,a1,c1,ys,rfl,hk,k1,o1,hm,hy⟩ g;unfold Zbpm;refine IfB.intro (fun h=>?_) fun h H2 hs=>⟨⟨a1,c1,ys,?_,?_,Zbn ?_ hs,fun y h=>Zbn (hy y h) hs⟩,Zk k1 hs⟩
  rotate_left
  . have h:=of_decide_eq_false h;simp only at h;have hyl:ys.length=i:=by have:=congrArg List.length hm;simp at this;omega
    rw [hyl]
  have h:=of_decide_eq_false h;simp only at h;rw [hm,List.take_of_length_le (by omega)]
  . have hyl:ys.length=i:=by have:=congrArg List.length hm;simp at this;omega
    rw [hyl];exact o1
  have h:=of_decide_eq_true h;simp only at h;have hil:i<xs.length:=by omega
  have hg:xs[i]? =some (xs[i]):=List.getElem?_eq_getElem hil;have hX:=hx _ (List.getElem_mem hil);generalize xs[i]=x at hg hX;have hyl:ys.length=i:=by have:=congrArg List.length hm;simp at this;omega
  cases a with
  | none=>have:=hr.2;simp only at this;omega
  | some a=>
    have hr1:=hr.keep k1 fun _ _ h=>h;have hsp:=(hr.2 (by omega)).1
    obtain ⟨ab,ao,sp⟩:=a;simp only at hsp;subst hsp;have hc: ∀j,j<9->H1.cell ⟨ab,ao+i*9+j,none⟩=(sgL x.1 x.2.1 x.1.data.length x.2.2)[j]? :=fun j hj=>by
      have:=hr1.cell (j:=i*9+j) (by omega)
      rw [← Nat.add_assoc] at this;rw [this];exact Zbip (a:=⟨0,0,none⟩) (T:=0) xs i x hg j hj
    refine NilP.intro _ rfl (InB.intro i rfl (by omega) ?_)
    rw [Zw];refine ⟨_,hc 0 (by omega),_,hc 1 (by omega),_,hc 2 (by omega),_,hc 3 (by omega),_,hc 4 (by omega),_,hc 5 (by omega),_,hc 6 (by omega),_,hc 7 (by omega),_,_,_,hc 8 (by omega),newB fun q H2 hq b2 k2=>?_⟩
    refine st9 (s:=x.1) b2 fun H3 b3 k3=>?_;have k13:Keep Nil H1 H3:=k2.then k3 fun y hy=> .inr (hy▸hq);have k03:=k1.trans k13;obtain ⟨cs,hb0⟩:=hb;refine ⟨_,cellL (k03.blk hb0 id) 0 rfl,ld9 (s:=x.1) b3 ((Zbsh hme hto ((hX.rd.keep k03 fun _ _ h=>h)) hX.ok hX.seq hX.ack).mono ?_)⟩;rintro _ H4 ⟨⟨ra,rc,e,rfl,oR⟩,k4⟩;have k04:=k03.trans k4;have k14:=k13.trans k4;refine ⟨_,_,_,_,rfl,Zbxs (x:=(outV S.me to x.1,ra,rc)) (o1.keep k14 fun _ _ h=>h) k04 (show i <= 10000 by omega) fun a' cap' H5 o5 k5 k05=>⟨_,_,_,rfl,k - 1,by omega,i+1,a',cap',ys++[(outV S.me to x.1,ra,rc)],?_,by omega,k05,o5,?_,fun y hY=>?_⟩⟩
    . show (((a',i+1,cap'),(IntKind.wrap .i64 ((i:Int)+1),())):(Option Addr×Nat×Nat)×Int×Unit)=_;rw [Zi (by omega) (by omega)];rfl
    rw [List.map_append,hm,List.take_succ,hg];simp
    . have notZ: ∀z,(∃c,Blk H4 z Zh c)->¬(a1=some ⟨z,0,none⟩):=fun z ⟨cz,hz⟩ e=>by obtain ⟨cs2,h2⟩:=(o1.keep k14 fun _ _ h=>h).live e;exact absurd (Zcl hz h2) (by decide)
      rcases List.mem_append.1 hY with hY | hY;exact ((hy y hY).keep k14 fun _ _ h=>h).keep k5 notZ;rw [List.mem_singleton.1 hY];exact RwAt.keep (x:=(outV S.me to x.1,ra,rc)) (oR.mono k03) k5 notZ
theorem Zbyz {cb gn gc:Nat} {q:CP} {c:Cn} {now due:Int} {ga:Option Addr} (h:CRep H cb q c now due ga gn gc):FnW Tryz.prog Zwu ⟨[.pointer (some ⟨cb,0,none⟩)]⟩ H fun v H'=>v= .int .i64 c.ready∧H'=H:=by refine Zcgr cb ?_;unfold Zbmq;refine (Zvn h).mono ?_;rintro _ _ ⟨rfl,e⟩;rw [e];refine ⟨_,rfl,ifF rfl ⟨_,cellL h.blk 5 rfl,(Zbvs h.inn).mono ?_⟩⟩;rintro _ _ ⟨rfl,e⟩;rw [e];exact ⟨_,rfl,fun H2 hs=>⟨rfl,(Zf hs).symm⟩⟩
theorem Zbgd {now:Int} {x:EnB} (h:OneAt H now x):FnW Tryz.prog Zow ⟨[.pointer (some ⟨x.ob,0,none⟩)]⟩ H fun v H'=>v= .agg ⟨[.int .i64 x.e.c.st,.int .i64 x.e.c.ready]⟩∧Keep Nil H H':=by refine Zcff x.ob ?_;unfold Zblq;refine newB fun q H1 hq b1 k1=>?_;have h1:=h.keep k1 fun _ _ h=>h;obtain ⟨p1,n1,d1,hr1,_⟩:=h1.con.ex;obtain ⟨kp1,kp0⟩:=Zcq h1.blk.some;refine ⟨[x.ob],kp1,_,cellL h1.blk 4 rfl,List.mem_singleton.2 rfl,_,cellL h1.blk 4 rfl,(Zbdb hr1).mono ?_⟩;rintro _ _ ⟨rfl,e⟩;rw [e];refine ⟨_,rfl,kp0,(Zbyz hr1).mono ?_⟩;rintro _ _ ⟨rfl,e⟩;rw [e];refine ⟨_,rfl,stL b1 (by simp) rfl fun H2 b2 k2=>stL b2 (by simp) rfl fun H3 b3 k3=>⟨_,cellL b3 0 rfl,_,cellL b3 1 rfl,fun H4 hs=>⟨rfl,Zk ((k1.then k2 fun y hy=> .inr (hy▸hq)).then k3 fun y hy=> .inr (hy▸hq)) hs⟩⟩⟩
end
end Go.Proofs.YtaljkjokbdpdoaaGreat
end
section
set_option maxRecDepth 100000
namespace Go.Sh
section
variable {κ:Type} [DecidableEq κ] {kv:κ->Value} {P:Program} {t kt el:TypeId} {H:Heap} {z:Value}
theorem Zzn {b:Nat} {o:Obj}:Keep (fun y=>y=b) H (H.upd b o):=(Keep.refl _ _).upd (.inl rfl)
theorem Zbge (T:KeyTy P kt kv) (M:MapG P t kt el z) {b:Nat} {es:List (Gv κ)} {ck:Nat} {k:κ} {x:Value} {K:Value->Heap->Prop} (hm:MapB kv H b es ck) (hb: ∀e∈es,e.2.2<ck) (hn:getG k es=none)
    (h: ∀H',MapB kv H' b (es++[(k,x,ck)]) (ck+1)->Keep (fun y=>y=b) H H'->K undef H'):
    SemW P (Instr.mapEntry t (.map (some b)) (kv k)) H fun v H1=>∃(z:Value) (n:Int),v= .tuple ⟨[z,.int .i64 n]⟩∧EsW P t (.map (some b)) (.int .i64 n) x H1 K:=by
  refine MeG T M hm hn fun H1 e1=>⟨_,_,rfl,?_⟩;have m1:MapB kv H1 b (es++[(k,z,ck)]) (ck+1):=by rw [e1];exact upd_eq
  refine EsG m1 hb fun H2 e2=>h H2 (by rw [e2];exact upd_eq) ?_
  rw [e2,e1];exact Zzn.trans Zzn
theorem Zbgf (T:KeyTy P kt kv) (M:MapG P t kt el z) {b:Nat} {es:List (Gv κ)} {ck:Nat} {k:κ} {K:Value->Heap->Prop} {tys:List TypeId} {ty:TypeId} (hm:MapB kv H b es ck)
    (h: ∀H',MapB kv H' b (eraG k es) ck->Keep (fun y=>y=b) H H'->K (.tuple #[]) H'):SemW P (Builtin.delete_ ⟨t::tys⟩ ty ⟨[.map (some b),kv k]⟩) H K:=
  DelG T M hm fun H' e=>h H' (by rw [e];exact upd_eq) (by rw [e];exact Zzn)
theorem Zbfa (k:κ): ∀es:List (Gv κ),getG k es=((es.map fun e=>(e.1,e.2.1)).find? fun p=>decide (k=p.1)).map (·.2)
  | []=>rfl
  | e::es=>by unfold getG;simp only [List.map_cons,List.find?_cons];by_cases h:k=e.1;rw [if_pos h,decide_eq_true h];rfl;rw [if_neg h,decide_eq_false h];exact Zbfa k es
theorem Zbem (k:κ): ∀es:List (Gv κ),(eraG k es).map (fun e=>(e.1,e.2.1))=(es.map fun e=>(e.1,e.2.1)).eraseP fun p=>decide (k=p.1)
  | []=>rfl
  | e::es=>by unfold eraG;simp only [List.map_cons,List.eraseP_cons];by_cases h:k=e.1;rw [if_pos h,decide_eq_true h];rfl;rw [if_neg h,decide_eq_false h];simp only [List.map_cons,Zbem k es];rfl
theorem Zvu (k:κ): ∀es:List (Gv κ),(eraG k es).Sublist es
  | []=>List.Sublist.refl _
  | e::es=>by unfold eraG;split;exact List.sublist_cons_self _ _;exact (Zvu k es).cons_cons _
end
end Go.Sh
namespace Go.Proofs.YtaljkjokbdpdoaaGreat
open Go.Sh Go.Pc Go.Conn
section
variable {H H':Heap} {sb:Nat} {p:StP} {S:Stk}
theorem Ents.get {κ:Type} [DecidableEq κ] {es:List (Gv κ)} {ck:Nat} {L:List EnB} {f:EnB->κ} (h:Ents es ck (L.map fun x=>(f x,ptrO x))) (k:κ):getG k es=(L.find? fun x=>decide (k=f x)).map ptrO:=by rw [Zbfa,h.pairs,List.find?_map,Option.map_map];rfl
theorem Ents.era {κ:Type} [DecidableEq κ] {es:List (Gv κ)} {ck:Nat} {L:List EnB} {f:EnB->κ} (h:Ents es ck (L.map fun x=>(f x,ptrO x))) (k:κ):Ents (eraG k es) ck ((L.eraseP fun x=>decide (k=f x)).map fun x=>(f x,ptrO x)):=by refine ⟨fun e he=>h.born e ((Zvu k es).mem he),h.nodup.sublist ((Zvu k es).map _),?_⟩;rw [Zbem,h.pairs,List.eraseP_map];rfl
theorem Ents.add {κ:Type} {es:List (Gv κ)} {ck:Nat} {ks:List (κ×Value)} (h:Ents es ck ks) (k:κ) (v:Value):Ents (es++[(k,v,ck)]) (ck+1) (ks++[(k,v)]):=by
  refine ⟨fun e he=>?_,?_,?_⟩;rcases List.mem_append.1 he with he | he;exact Nat.lt_succ_of_lt (h.born e he);rw [List.mem_singleton.1 he];exact Nat.lt_succ_self _
  . rw [List.map_append,List.nodup_append];refine ⟨h.nodup,by simp,fun a ha b hb=>?_⟩
    obtain ⟨e,he,rfl⟩:=List.mem_map.1 ha;rw [List.mem_singleton.1 hb];have:=h.born e he;show e.2.2≠ck;omega
  rw [List.map_append,h.pairs];rfl
theorem StRep.byK (h:StRep H sb p S) (k:Key):S.byK k=(p.L.find? fun x=>decide (k=x.e.k)).map (·.e):=by unfold Stk.byK;rw [← h.l,List.find?_map];rfl
theorem StRep.byI (h:StRep H sb p S) (i:Int):S.byI i=(p.L.find? fun x=>decide (i=x.e.id)).map (·.e):=by unfold Stk.byI;rw [← h.l,List.find?_map];rfl
theorem Zbuc {cb:Nat} {F Z:Nat->Prop} {c:Cn} {t:Int} (h:CAt H cb F c t) (k:Keep Z H H') (hz: ∀y,F y->¬Z y):CAt H' cb F c t:=by obtain ⟨q,n,d,h1,h2,h3,rfl⟩:=h.ex;exact ⟨q,n,d,h1.keep k hz,h2,h3,rfl⟩
theorem StRep.pa_ne (h:StRep H sb p S) {y:Nat} (hy:p.pa=some ⟨y,0,none⟩): ¬(y=sb∨y=p.bm∨y=p.im):=by
  obtain ⟨cs,b⟩:=Zbha h.ports hy;obtain ⟨es1,ck1,m1,_⟩:=h.m1;obtain ⟨es2,ck2,m2,_⟩:=h.m2;rintro (rfl | rfl | rfl);exact absurd (Zcl b h.blk) (by decide)
  unfold Blk at b;unfold MapB at m1;rw [b] at m1;cases m1;unfold Blk at b;unfold MapB at m2;rw [b] at m2;cases m2
theorem StRep.sb_ne (h:StRep H sb p S):sb≠p.bm∧sb≠p.im:=by obtain ⟨es1,ck1,m1,_⟩:=h.m1;obtain ⟨es2,ck2,m2,_⟩:=h.m2;have b:=h.blk;refine ⟨fun e=>?_,fun e=>?_⟩;rw [e] at b;unfold Blk at b;unfold MapB at m1;rw [b] at m1;cases m1;rw [e] at b;unfold Blk at b;unfold MapB at m2;rw [b] at m2;cases m2
theorem Zbih (h:StRep H sb p S) {k:Key} {c:Cn} {cb:Nat} {F:Nat->Prop} (hk:S.byK k=none) (hl:S.l.length<16) (hn:S.count<1000000) (hc:CAt H cb F c S.now) (hF: ∀y,F y->¬p.G sb y) (hfi:c.Fine):
    FnW Tryz.prog Zov ⟨[.pointer (some ⟨sb,0,none⟩),kvK k,.pointer (some ⟨cb,0,none⟩)]⟩ H fun v H'=>∃ob p',v= .pointer (some ⟨ob,0,none⟩)∧StRep H' sb p' (S.add k c)∧H'.cell ⟨ob,3,none⟩=some (.int .i64 ((S.count+1:Nat):Int))∧
      Keep (p.top sb) H H'∧∀y,p'.G sb y->p.G sb y∨F y∨H y=none:=by
  obtain ⟨k1,k2,k3⟩:=k;refine Zcfe sb k1 k2 k3 cb 0 ?_;unfold Zblp;obtain ⟨es1,ck1,m1,e1⟩:=h.m1;obtain ⟨es2,ck2,m2,e2⟩:=h.m2;have hw:IntKind.wrap .i64 ((S.count:Int)+1)=((S.count+1:Nat):Int):=by rw [Zi (by omega) (by omega)];omega
  refine newB fun kb H1 hkb b1 k01=>⟨_,cellL (k01.blk h.blk id) 5 rfl,?_⟩;rw [hw];refine stL (k01.blk h.blk id) (by simp [stL7]) rfl fun H2 b2 k12=>?_
  have hsk:sb≠kb:=fun e=>h.blk.some (e▸hkb);have bk2:=k12.blk b1 hsk.symm;refine ⟨_,cellL bk2 0 rfl,_,cellL bk2 1 rfl,_,cellL bk2 2 rfl,_,cellL b2 5 rfl,newB fun ob H3 hob b3 k23=>?_⟩;have bs3:=k23.blk b2 id;have bk3:=k23.blk bk2 id;obtain ⟨hbs,his⟩:=h.sb_ne;have k03:Keep (fun y=>y=sb) H H3:=((k01.mono fun _ h=>h.elim).trans k12).trans (k23.mono fun _ h=>h.elim);have hobH:H ob=none:=((k01.mono fun _ h=>h.elim).trans k12).free hob;refine ⟨_,cellL bs3 3 rfl,_,cellL bk3 0 rfl,_,cellL bk3 1 rfl,_,cellL bk3 2 rfl,_,cellL bs3 4 rfl,_,cellL b3 3 rfl,?_⟩;have g1:getG ((k1,k2,k3):Key) es1=none:=by
    rw [e1.get];have:=h.byK (k1,k2,k3);rw [hk] at this;cases hf:p.L.find? fun x=>decide ((k1,k2,k3)=x.e.k) with
    | none=>rfl
    | some x=>rw [hf] at this;cases this
  have g2:getG ((S.count+1:Nat):Int) es2=none:=by
    rw [e2.get]
    have hno:p.L.find? (fun x=>decide (((S.count+1:Nat):Int)=(x.e.id:Int)))=none:=by
      rw [List.find?_eq_none];intro x hx hd;have hd:=of_decide_eq_true hd;have:=(h.ok.le x.e (by rw [← h.l];exact List.mem_map.2 ⟨x,hx,rfl⟩)).2
      omega
    rw [hno];rfl
  refine Zbge keyK mapK (m1.keep k03 fun e=>hbs e.symm) e1.born g1 fun H4 m1' k34=>Zbge keyI mapI ((m2.keep k03 fun e=>his e.symm).keep k34 fun e=>h.bi e.symm) e2.born g2 fun H5 m2' k45=>fun H6 hs=>?_;have bs5:=k45.blk (k34.blk bs3 hbs) his;have kz:Keep (fun y=>y=sb∨y=p.bm∨y=p.im) H H5:=((k03.mono fun y e=> .inl e).trans (k34.mono fun y e=> .inr (.inl e))).trans (k45.mono fun y e=> .inr (.inr e));have zT: ∀y,(y=sb∨y=p.bm∨y=p.im)->p.top sb y:=fun y hy=>hy.imp id fun e=>e.imp id fun e=> .inl e;have kH:Keep (p.top sb) H H5:=kz.mono zT;have hobT: ∀y,p.top sb y->y≠ob:=fun y hy e=>h.top_live hy (e▸hobH);have bo5:Blk H5 ob Zve ⟨[.int .u32 k1,.int .i64 k2,.int .i64 k3,.int .i64 ((S.count+1:Nat):Int),.pointer (some ⟨cb,0,none⟩)]⟩:=
    k45.blk (k34.blk b3 fun e=>hobT _ (.inr (.inl rfl)) e.symm) fun e=>hobT _ (.inr (.inr (.inl rfl))) e.symm
  have hFlive: ∀y,F y->H y≠none:=fun y hy=>by obtain ⟨q,n,d,h1,h2,h3,h4⟩:=hc.ex;rw [← h4] at hy;exact h1.live hy
  refine ⟨ob,⟨p.bm,p.im,p.pa,p.pc,p.L++[⟨⟨(k1,k2,k3),S.count+1,c⟩,ob,cb,F⟩]⟩,rfl,StRep.shut (H0:=H) ⟨h.ok.add hfi hk hl,bs5,?_,⟨_,_,m1'.keep k45 h.bi,?_⟩,⟨_,_,m2',?_⟩,?_,fun x hx=>?_,h.bi,fun x hx y hy ht=>?_,?_⟩ hs,?_,Zbl kH hs,fun y hy=>?_⟩;exact h.ports.keep kz fun y hy=>h.pa_ne hy;rw [List.map_append];exact e1.add _ _;rw [List.map_append];exact e2.add _ _;show (p.L++[_]).map (fun x:EnB=>x.e)=S.l++[_];rw [List.map_append,h.l];rfl;rcases List.mem_append.1 hx with hx | hx;exact (h.ones x hx).keep kz fun y hy hz=>h.apart x hx y hy (zT y hz);rw [List.mem_singleton.1 hx];exact ⟨bo5,Zbuc hc kz fun y hy hz=>hF y hy (.inl (zT y hz)),fun hy=>hFlive _ hy hobH⟩;rcases List.mem_append.1 hx with hx | hx;exact h.apart x hx y hy ht;rw [List.mem_singleton.1 hx] at hy;rcases hy with hy | hy;exact hobT y ht hy;exact hF y hy (.inl ht);rw [List.pairwise_append];refine ⟨h.pw,List.pairwise_singleton _ _,fun x hx z hz y hy hy2=>?_⟩;rw [List.mem_singleton.1 hz] at hy2;rcases hy2 with e | hy2;have e:y=ob:=e;exact (h.ones x hx).live hy (e▸hobH);exact hF y hy2 (.inr ⟨x,hx,hy⟩);exact cellL (Zcb bo5 hs) 3 rfl;rcases hy with hy | ⟨x,hx,hy⟩;exact .inl (.inl hy);rcases List.mem_append.1 hx with hx | hx;exact .inl (.inr ⟨x,hx,hy⟩);rw [List.mem_singleton.1 hx] at hy;rcases hy with e | hy;have e:y=ob:=e;exact .inr (.inr (e▸hobH));exact .inr (.inl hy)
theorem Zvv {x:EnB} {q:EnB->Bool}: ∀{L:List EnB},(∀y∈L,(q y=true↔y.e.id=x.e.id))->(L.Pairwise fun a b=>a.e.id<b.e.id)->L.eraseP q=L.filter fun y=>decide (y.e.id≠x.e.id)
  | [],_,_=>rfl
  | y::L,h,hp=>by
    obtain ⟨p1,p2⟩:=List.pairwise_cons.1 hp;rw [List.eraseP_cons,List.filter_cons];by_cases hq:q y=true
    . have hid:=(h y List.mem_cons_self).1 hq;rw [hq,if_neg (by simp [hid])]
      show L=_;rw [List.filter_eq_self.2];intro z hz;have:=p1 z hz;exact decide_eq_true (by omega)
    . have hid: ¬y.e.id=x.e.id:=fun e=>hq ((h y List.mem_cons_self).2 e)
      have hq:q y=false:=by cases hh:q y with
        | false=>rfl
        | true=>exact absurd hh hq
      rw [hq,if_pos (decide_eq_true hid)];show y::L.eraseP q=_;rw [Zvv (fun z hz=>h z (List.mem_cons_of_mem _ hz)) p2]
theorem StRep.idsL (h:StRep H sb p S):p.L.Pairwise fun a b=>a.e.id<b.e.id:=by have:=h.ok.ids;rw [← h.l,List.pairwise_map] at this;exact this
theorem StRep.mem (h:StRep H sb p S) {x:EnB} (hx:x∈p.L):x.e∈S.l:=by rw [← h.l];exact List.mem_map.2 ⟨x,hx,rfl⟩
theorem StRep.goneB (h:StRep H sb p S) {x:EnB} (hx:x∈p.L) {H1:Heap} {es1:List (Gv Key)} {ck1:Nat} {es2:List (Gv Int)} {ck2:Nat} (m1:MapB kvK H1 p.bm es1 ck1) (e1:Ents es1 ck1 ((p.L.eraseP fun y=>decide (x.e.k=y.e.k)).map fun x=>(x.e.k,ptrO x)))
    (m2:MapB kvI H1 p.im es2 ck2) (e2:Ents es2 ck2 ((p.L.eraseP fun y=>decide ((x.e.id:Int)=y.e.id)).map fun x=>((x.e.id:Int),ptrO x))) (kz:Keep (fun y=>y=p.bm∨y=p.im) H H1):
    StRep H1 sb { p with L:=p.L.filter fun y=>decide (y.e.id≠x.e.id) } (S.gone x.e.id):=by
  have f1:(p.L.eraseP fun y=>decide (x.e.k=y.e.k))=p.L.filter fun y=>decide (y.e.id≠x.e.id):=Zvv (fun y hy=>⟨fun hd=>by
    have:=h.ok.oneK (h.mem hx) (h.mem hy) (of_decide_eq_true hd);rw [this],fun hi=>by
    have:=h.ok.one (h.mem hx) (h.mem hy) hi.symm;exact decide_eq_true (by rw [this])⟩) h.idsL
  have f2:(p.L.eraseP fun y=>decide ((x.e.id:Int)=y.e.id))=p.L.filter fun y=>decide (y.e.id≠x.e.id):=Zvv (fun y hy=>⟨fun hd=>by have:=of_decide_eq_true hd;omega,fun hi=>decide_eq_true (by omega)⟩) h.idsL
  rw [f1] at e1;rw [f2] at e2;have zT: ∀y,(y=p.bm∨y=p.im)->p.top sb y:=fun y hy=> .inr (hy.imp id fun e=> .inl e);obtain ⟨n1,n2⟩:=h.sb_ne;refine ⟨h.ok.gone _,kz.blk h.blk fun e=>e.elim n1 n2,h.ports.keep kz fun y hy e=>h.pa_ne hy (.inr e),⟨_,_,m1,e1⟩,⟨_,_,m2,e2⟩,?_,fun z hz=>(h.ones z (List.mem_filter.1 hz).1).keep kz fun y hy e=>h.apart z (List.mem_filter.1 hz).1 y hy (zT y e),h.bi,fun z hz=>h.apart z (List.mem_filter.1 hz).1,h.pw.filter _⟩;show (p.L.filter _).map (·.e)=S.l.filter _;rw [← h.l,List.filter_map];rfl
theorem Zbuv (h:StRep H sb p S) {x:EnB} (hx:x∈p.L) (s0 r0:Nat):
    FnW Tryz.prog Zyc ⟨[.pointer (some ⟨sb,0,none⟩),.pointer (some ⟨x.ob,0,none⟩),.agg ⟨[.int .i64 s0,.int .i64 r0]⟩]⟩ H fun v H'=>∃p',EvRow H H' v (evs x.e.id s0 r0 x.e.c)∧StRep H' sb p' (S.settle x.e.id x.e.c)∧Keep (fun y=>y=p.bm∨y=p.im) H H'∧∀y,p'.G sb y->p.G sb y:=by
  refine Zckb sb x.ob 0 s0 r0 ?_;unfold Zbqn;refine newB fun wb H1 hwb b1 k01=>(Zbgd ((h.ones x hx).keep k01 fun _ _ h=>h)).mono ?_;rintro _ H2 ⟨rfl,k12⟩;have k02:=k01.trans k12;refine ⟨_,_,rfl,newB fun nb H3 hnb b3 k23=>stL b3 (by simp) rfl fun H4 b4 k34=>stL b4 (by simp) rfl fun H5 b5 k45=>?_⟩
  have hnH:H nb=none:=k02.free hnb;have k05:Keep Nil H H5:=((k02.trans k23).then k34 fun y hy=> .inr (hy▸hnH)).then k45 fun y hy=> .inr (hy▸hnH);have hwn:wb≠nb:=fun e=>(k12.blk b1 id).some (e▸hnb);have bw:Blk H5 wb Zff ⟨[.int .i64 s0,.int .i64 r0]⟩:=k45.blk (k34.blk (k23.blk (k12.blk b1 id) id) hwn) hwn;have j5: ∀(H6:Heap) (a:Option Addr) (n c:Nat) (es:List (Int×Int)),Keep Nil H H6->es.length=n->n <= 2->Sh.Own H H6 a n c 2 Zbi (evL es)->¬(x.e.c.st=6∨x.e.c.st=7∨x.e.c.st=9)->
      Zbcn sb x.ob 0 a n c x.e.c.st H6 fun v H1=>∀H2,Shut H H1 H2->∃p',EvRow H H2 v (es++(if x.e.c.st=0 then [(4,(x.e.id:Int))] else []))∧StRep H2 sb p' (S.settle x.e.id x.e.c)∧Keep (fun y=>y=p.bm∨y=p.im) H H2∧∀y,p'.G sb y->p.G sb y:=by
    intro H6 a n c es k06 hes hn o6 hno;unfold Zbcn;have h6:=h.keep k06 fun _ _ h=>h;refine IfB.intro (fun e=>?_) fun e H7 hs=>?_
    . have e0:x.e.c.st=0:=by have:=eq_of_beq e;omega
      rw [if_pos e0];have hset:S.settle x.e.id x.e.c=S.gone x.e.id:=by unfold Stk.settle;rw [if_pos e0]
      rw [hset];obtain ⟨es1,ck1,m1,e1⟩:=h6.m1;obtain ⟨es2,ck2,m2,e2⟩:=h6.m2;have bo6:=(h6.ones x hx).blk;refine ⟨_,cellL h6.blk 3 rfl,_,cellL bo6 0 rfl,_,cellL bo6 1 rfl,_,cellL bo6 2 rfl,Zbgf (k:=x.e.k) keyK mapK m1 fun H7 m1' k67=>?_⟩;obtain ⟨n1,n2⟩:=h.sb_ne;have oT: ∀y,p.top sb y->x.ob≠y:=fun y hy e=>h.apart x hx x.ob (.inl rfl) (e▸hy);have bs7:=k67.blk h6.blk n1;have bo7:=k67.blk bo6 (oT _ (.inr (.inl rfl)));refine ⟨_,cellL bs7 4 rfl,_,cellL bo7 3 rfl,Zbgf (k:=(x.e.id:Int)) keyI mapI (m2.keep k67 h.bi.symm) fun H8 m2' k78=>?_⟩;have bo8:=k78.blk bo7 (oT _ (.inr (.inr (.inl rfl))));have k68:Keep (fun y=>y=p.bm∨y=p.im) H6 H8:=(k67.mono fun y e=> .inl e).trans (k78.mono fun y e=> .inr e);have h8:=h6.goneB hx (m1'.keep k78 h.bi) (e1.era _) m2' (e2.era _) k68;have o8:Sh.Own H H8 a n c 2 Zbi (evL es):=o6.keep k68 fun y hy e=>by obtain ⟨cs,hb⟩:=o6.live hy;rcases e with rfl | rfl;unfold Blk at hb;unfold MapB at m1;rw [hb] at m1;cases m1;unfold Blk at hb;unfold MapB at m2;rw [hb] at m2;cases m2
      have k08:Keep (fun y=>y=p.bm∨y=p.im) H H8:=(k06.mono fun _ h=>h.elim).trans k68;refine ⟨_,cellL bo8 3 rfl,Zoj o8 k08 (by omega) fun a' c' H9 o9 k89 k09=>⟨_,_,_,rfl,fun H10 hs=>⟨_,⟨a',c',?_,?_⟩,StRep.shut (h8.keep k89 fun y hy e=>?_) hs,Zbl k09 hs,fun y hy=>?_⟩⟩⟩
      rw [List.length_append,hes];rfl;rw [List.length_append,hes];exact Zbn o9 hs;refine h.live ?_ (o8.free e);rcases hy with hy | ⟨z,hz,hy⟩;exact .inl hy;exact .inr ⟨z,(List.mem_filter.1 hz).1,hy⟩;rcases hy with hy | ⟨z,hz,hy⟩;exact .inl hy;exact .inr ⟨z,(List.mem_filter.1 hz).1,hy⟩
    . have e0: ¬x.e.c.st=0:=fun z=>by rw [z] at e;cases e
      rw [if_neg e0,List.append_nil];have hset:S.settle x.e.id x.e.c=S:=by unfold Stk.settle;rw [if_neg e0]
      rw [hset];exact ⟨p,⟨a,c,by rw [hes],by rw [hes];exact Zbn o6 hs⟩,h6.shut hs,Zbl (k06.mono fun _ h=>h.elim) hs,fun y hy=>hy⟩
  have j3: ∀(H6:Heap) (a:Option Addr) (n c:Nat) (es:List (Int×Int)) (z:Bool),Keep Nil H H6->Blk H6 wb Zff ⟨[.int .i64 s0,.int .i64 r0]⟩->es.length=n->n <= 2->Sh.Own H H6 a n c 2 Zbi (evL es)->(z=true↔(x.e.c.st=6∨x.e.c.st=7∨x.e.c.st=9))->
      Znp sb x.ob 0 wb a n c x.e.c.st z H6 fun v H1=>∀H2,Shut H H1 H2->∃p',EvRow H H2 v (es++(if x.e.c.st=6∨x.e.c.st=7∨x.e.c.st=9 then (if s0 <= 5 then [(3,(x.e.id:Int))] else []) else if x.e.c.st=0 then [(4,(x.e.id:Int))] else []))∧StRep H2 sb p' (S.settle x.e.id x.e.c)∧Keep (fun y=>y=p.bm∨y=p.im) H H2∧∀y,p'.G sb y->p.G sb y:=by
    intro H6 a n c es z k06 bw6 hes hn o6 hz;unfold Znp;refine IfB.intro (fun e=>⟨_,cellL bw6 0 rfl,?_⟩) fun e=>?_
    . have h679:=hz.1 e;rw [if_pos h679];have hset:S.settle x.e.id x.e.c=S:=by unfold Stk.settle;rw [if_neg (by omega)]
      rw [hset];have h6:=h.keep k06 fun _ _ h=>h;unfold Zbqm;refine IfB.intro (fun e5=>⟨_,cellL (h6.ones x hx).blk 3 rfl,Zoj o6 k06 (by omega) fun a' c' H7 o7 k67 k07=>⟨_,_,_,rfl,fun H8 hs=>?_⟩⟩) fun e5 H7 hs=>?_
      . rw [if_pos (by have:=of_decide_eq_true e5;omega)]
        refine ⟨p,⟨a',c',?_,?_⟩,(h.keep k07 fun _ _ h=>h).shut hs,Zbl (k07.mono fun _ h=>h.elim) hs,fun y hy=>hy⟩;rw [List.length_append,hes];rfl;rw [List.length_append,hes];exact Zbn o7 hs
      . rw [if_neg (by have:=of_decide_eq_false e5;omega),List.append_nil]
        exact ⟨p,⟨a,c,by rw [hes],by rw [hes];exact Zbn o6 hs⟩,h6.shut hs,Zbl (k06.mono fun _ h=>h.elim) hs,fun y hy=>hy⟩
    . have hno: ¬(x.e.c.st=6∨x.e.c.st=7∨x.e.c.st=9):=fun h=>by rw [hz.2 h] at e;cases e
      rw [if_neg hno];exact j5 H6 a n c es k06 hes hn o6 hno
  have beq_nat: ∀(a b:Nat),((a:Int)==(b:Int))=decide (a=b):=fun a b=>by rw [Bool.eq_iff_iff,beq_iff_eq,decide_eq_true_eq];omega
  have j2: ∀(H6:Heap) (a:Option Addr) (n c:Nat) (es:List (Int×Int)),Keep Nil H H6->Blk H6 wb Zff ⟨[.int .i64 s0,.int .i64 r0]⟩->Blk H6 nb Zff ⟨[.int .i64 x.e.c.st,.int .i64 x.e.c.ready]⟩->es.length=n->n <= 2->Sh.Own H H6 a n c 2 Zbi (evL es)->
      Zui sb x.ob 0 wb nb a n c H6 fun v H1=>∀H2,Shut H H1 H2->∃p',EvRow H H2 v (es++(if x.e.c.st=6∨x.e.c.st=7∨x.e.c.st=9 then (if s0 <= 5 then [(3,(x.e.id:Int))] else []) else if x.e.c.st=0 then [(4,(x.e.id:Int))] else []))∧StRep H2 sb p' (S.settle x.e.id x.e.c)∧Keep (fun y=>y=p.bm∨y=p.im) H H2∧∀y,p'.G sb y->p.G sb y:=by
    intro H6 a n c es k06 bw6 bn6 hes hn o6;unfold Zui;refine ⟨_,cellL bn6 0 rfl,IfB.intro (fun e=>j3 H6 a n c es _ k06 bw6 hes hn o6 ?_) fun e=>IfB.intro (fun e2=>j3 H6 a n c es _ k06 bw6 hes hn o6 ?_) fun e2=>j3 H6 a n c es _ k06 bw6 hes hn o6 ?_⟩;have:=eq_of_beq e;rw [e];exact ⟨fun _=> .inl (by omega),fun _=>rfl⟩
    have:=eq_of_beq e2;rw [e2];exact ⟨fun _=> .inr (.inl (by omega)),fun _=>rfl⟩
    . have n6: ¬x.e.c.st=6:=fun z=>by rw [z] at e;cases e
      have n7: ¬x.e.c.st=7:=fun z=>by rw [z] at e2;cases e2
      rw [beq_iff_eq];omega
  have j1: ∀(H6:Heap) (a:Option Addr) (n c:Nat) (es:List (Int×Int)),Keep Nil H H6->Blk H6 wb Zff ⟨[.int .i64 s0,.int .i64 r0]⟩->Blk H6 nb Zff ⟨[.int .i64 x.e.c.st,.int .i64 x.e.c.ready]⟩->es.length=n->n <= 1->Sh.Own H H6 a n c 2 Zbi (evL es)->
      Zuh sb x.ob 0 wb nb a n c H6 fun v H1=>∀H2,Shut H H1 H2->∃p',EvRow H H2 v (es++((if r0<x.e.c.ready then [(2,(x.e.id:Int))] else [])++(if x.e.c.st=6∨x.e.c.st=7∨x.e.c.st=9 then (if s0 <= 5 then [(3,(x.e.id:Int))] else []) else if x.e.c.st=0 then [(4,(x.e.id:Int))] else [])))∧StRep H2 sb p' (S.settle x.e.id x.e.c)∧Keep (fun y=>y=p.bm∨y=p.im) H H2∧∀y,p'.G sb y->p.G sb y:=by
    intro H6 a n c es k06 bw6 bn6 hes hn o6;unfold Zuh;have h6:=h.keep k06 fun _ _ h=>h;refine ⟨_,cellL bn6 1 rfl,_,cellL bw6 1 rfl,IfB.intro (fun e=>⟨_,cellL (h6.ones x hx).blk 3 rfl,Zoj o6 k06 (by omega) fun a' c' H7 o7 k67 k07=>⟨_,_,_,rfl,?_⟩⟩) fun e=>?_⟩
    . rw [if_pos (by have:=of_decide_eq_true e;omega),← List.append_assoc]
      have far: ∀y,(∃T cs,Blk H6 y T cs∧T≠Zbi)->¬(a=some ⟨y,0,none⟩):=fun y ⟨T,cs,hb,hT⟩ e=>by obtain ⟨cs2,h2⟩:=o6.live e;exact hT (Zcl hb h2)
      exact j2 H7 a' (n+1) c' _ k07 (k67.blk bw6 (far _ ⟨_,_,bw6,by decide⟩)) (k67.blk bn6 (far _ ⟨_,_,bn6,by decide⟩)) (by rw [List.length_append,hes];rfl) (by omega) o7
    . rw [if_neg (by have:=of_decide_eq_false e;omega),List.nil_append]
      exact j2 H6 a n c es k06 bw6 bn6 hes (by omega) o6
  have j0: ∀z:Bool,(z=true↔(s0<3∧3 <= x.e.c.st))->Zug sb x.ob 0 wb nb z H5 fun v H1=>∀H2,Shut H H1 H2->∃p',EvRow H H2 v (evs x.e.id s0 r0 x.e.c)∧StRep H2 sb p' (S.settle x.e.id x.e.c)∧Keep (fun y=>y=p.bm∨y=p.im) H H2∧∀y,p'.G sb y->p.G sb y:=by
    intro z hz;unfold Zug evs;have h5:=h.keep k05 fun _ _ h=>h;refine IfB.intro (fun e=>⟨_,cellL (h5.ones x hx).blk 3 rfl,Zoj (a:=none) (n:=0) (c:=0) (xs:=[]) Sh.Own.nil k05 (by omega) fun a' c' H7 o7 k67 k07=>⟨_,_,_,rfl,?_⟩⟩) fun e=>?_
    rw [if_pos (hz.1 e)];exact j1 H7 a' 1 c' _ k07 (k67.blk bw fun e=>by cases e) (k67.blk b5 fun e=>by cases e) rfl (by omega) o7
    . rw [if_neg (fun h=>by rw [hz.2 h] at e;cases e)]
      exact j1 H5 none 0 0 [] k05 bw b5 rfl (by omega) Sh.Own.nil
  refine ⟨_,cellL bw 0 rfl,IfB.intro (fun e=>⟨_,cellL b5 0 rfl,j0 _ ?_⟩) fun e=>j0 false ⟨(fun h=>by cases h),fun h=>?_⟩⟩
  have:=of_decide_eq_true e;rw [decide_eq_true_eq];omega;have:=of_decide_eq_false e;omega
end
end Go.Proofs.YtaljkjokbdpdoaaGreat
end
section
set_option maxRecDepth 100000
namespace Go.Proofs.YtaljkjokbdpdoaaGreat
open Go.Sh Go.Pc Go.Conn
section
variable {H H':Heap} {sb:Nat} {p:StP} {S:Stk}
theorem StRep.disj (h:StRep H sb p S) {a b:EnB} (ha:a∈p.L) (hb:b∈p.L) (hi:a.e.id≠b.e.id): ∀y,a.own y->¬b.own y:=by
  have key: ∀{L:List EnB},L.Pairwise (fun x z=>∀y,x.own y->¬z.own y)->a∈L->b∈L->∀y,a.own y->¬b.own y:=by
    intro L;induction L with
    | nil=>exact fun _ h=>absurd h List.not_mem_nil
    | cons x L ih=>
      intro hp h1 h2;obtain ⟨p1,p2⟩:=List.pairwise_cons.1 hp;rcases List.mem_cons.1 h1 with e1 | h1
      . rcases List.mem_cons.1 h2 with e2 | h2;exact absurd (by rw [e1,e2]) hi
        rw [e1];exact p1 b h2
      rcases List.mem_cons.1 h2 with e2 | h2;rw [e2];exact fun y ha hx=>p1 a h1 y hx ha;exact ih p2 h1 h2
  exact key h.pw ha hb
theorem StRep.oneB (h:StRep H sb p S) {a b:EnB} (ha:a∈p.L) (hb:b∈p.L) (hi:a.e.id=b.e.id):a=b:=by
  have key: ∀{L:List EnB},L.Pairwise (fun x z=>x.e.id<z.e.id)->a∈L->b∈L->a=b:=by
    intro L;induction L with
    | nil=>exact fun _ h=>absurd h List.not_mem_nil
    | cons x L ih=>
      intro hp h1 h2;obtain ⟨p1,p2⟩:=List.pairwise_cons.1 hp;rcases List.mem_cons.1 h1 with e1 | h1;rcases List.mem_cons.1 h2 with e2 | h2;rw [e1,e2];have:=p1 b h2;rw [← e1] at this;omega;rcases List.mem_cons.1 h2 with e2 | h2;have:=p1 a h1;rw [← e2] at this;omega;exact ih p2 h1 h2
  exact key h.idsL ha hb
def Zcs (id:Nat) (c:Cn) (F:Nat->Prop) (z:EnB):EnB:=if z.e.id=id then ⟨{ z.e with c:=c },z.ob,z.cb,F⟩ else z
theorem Zbbi (id:Nat) (c:Cn) (F:Nat->Prop) (z:EnB):(Zcs id c F z).ob=z.ob∧(Zcs id c F z).e.k=z.e.k∧(Zcs id c F z).e.id=z.e.id∧(Zcs id c F z).e=Zef id c z.e:=by unfold Zcs Zef;split<;>exact ⟨rfl,rfl,rfl,rfl⟩
structure SegsAt (H:Heap) (v:Value) (l:List Sg):Prop where
  ex: ∃a c xs,v= .slice a xs.length c∧xs.map (·.1)=l∧Reads H a (xs.length*9) (sgsL xs)∧∀z∈xs,SegO H z
theorem Zbas {F:Nat->Prop} {cb:Nat} {c:Cn} {t:Int} {v:Value} {l:List Sg} {H0:Heap} (hl:Left H0 F H cb c t v l) (hg: ∀g∈l,Goes g):SegsAt H v l:=by obtain ⟨q,now',due,ga,gc,xs,hv,hx,hn,hr,hd,kk,hsub,ho⟩:=hl.ex;refine ⟨ga,gc,xs,hv,hx,ho.own.reads,fun z hz=>?_⟩;have hd:=ho.all z hz;exact ⟨hd.seq,hd.ack,hd.rd,(hg z.1 (by rw [← hx];exact List.mem_map.2 ⟨z,hz,rfl⟩)).data⟩
theorem StRep.turnL (h:StRep H sb p S) {x:EnB} (hx:x∈p.L) {c:Cn} {v:Value} {l:List Sg} (hl:Left H x.F H' x.cb c S.now v l) (hf:c.Fine):
    ∃p',StRep H' sb p' (S.turn x.e.id c)∧(∀y,p'.top sb y↔p.top sb y)∧p'.bm=p.bm∧p'.im=p.im∧Keep (p.G sb) H H'∧(∀y,p'.G sb y->p.G sb y∨H y=none)∧∃x'∈p'.L,x'.e= { x.e with c:=c }∧x'.ob=x.ob:=by
  obtain ⟨q,now',due,ga,gc,xs,hv,hm,hn,hr,hd,kk,hsub,ho⟩:=hl.ex;have hFG: ∀y,x.F y->p.G sb y:=fun y hy=> .inr ⟨x,hx,.inr hy⟩;have hT: ∀y,p.top sb y->¬x.F y:=fun y hy hF=>h.apart x hx y (.inr hF) hy;obtain ⟨es1,ck1,m1,e1⟩:=h.m1;obtain ⟨es2,ck2,m2,e2⟩:=h.m2;have xO:=h.ones x hx;have ownT: ∀z∈p.L,∀y,(Zcs x.e.id c (q.F x.cb) z).own y->z.own y∨H y=none:=fun z hz y hy=>by unfold Zcs at hy;split at hy;rename_i e;have:=h.oneB hz hx e;subst this;rcases hy with e | hy;exact .inl (.inl e);exact (hsub y hy).imp .inr id;exact .inl hy
  refine ⟨{ p with L:=p.L.map (Zcs x.e.id c (q.F x.cb)) },⟨h.ok.turn _ hf,kk.blk h.blk (hT _ (.inl rfl)),h.ports.keep kk fun y hy=>hT y (.inr (.inr (.inr hy))),⟨es1,ck1,m1.keep kk (hT _ (.inr (.inl rfl))),?_⟩,⟨es2,ck2,m2.keep kk (hT _ (.inr (.inr (.inl rfl)))),?_⟩,?_,?_,h.bi,?_,?_⟩,fun y=>Iff.rfl,rfl,rfl,kk.mono hFG,?_,?_⟩
  . have:(p.L.map (Zcs x.e.id c (q.F x.cb))).map (fun x=>(x.e.k,ptrO x))=p.L.map fun x=>(x.e.k,ptrO x):=by rw [List.map_map];refine List.map_congr_left fun z _=>?_;obtain ⟨t1,t2,t3,_⟩:=Zbbi x.e.id c (q.F x.cb) z;simp only [Function.comp_apply,ptrO,t1,t2]
    show Ents es1 ck1 ((p.L.map (Zcs x.e.id c (q.F x.cb))).map fun x=>(x.e.k,ptrO x));rw [this];exact e1
  . have:(p.L.map (Zcs x.e.id c (q.F x.cb))).map (fun x=>((x.e.id:Int),ptrO x))=p.L.map fun x=>((x.e.id:Int),ptrO x):=by rw [List.map_map];refine List.map_congr_left fun z _=>?_;obtain ⟨t1,t2,t3,_⟩:=Zbbi x.e.id c (q.F x.cb) z;simp only [Function.comp_apply,ptrO,t1,t3]
    show Ents es2 ck2 ((p.L.map (Zcs x.e.id c (q.F x.cb))).map fun x=>((x.e.id:Int),ptrO x));rw [this];exact e2
  show (p.L.map (Zcs x.e.id c (q.F x.cb))).map (·.e)=S.l.map (Zef x.e.id c);rw [← h.l,List.map_map,List.map_map];exact List.map_congr_left fun z _=>(Zbbi x.e.id c (q.F x.cb) z).2.2.2
  . intro z hz;obtain ⟨z0,hz0,rfl⟩:=List.mem_map.1 hz;by_cases e:z0.e.id=x.e.id
    . have:=h.oneB hz0 hx e;subst this;have ht:Zcs z0.e.id c (q.F z0.cb) z0=⟨{ z0.e with c:=c },z0.ob,z0.cb,q.F z0.cb⟩:=if_pos rfl
      rw [ht];refine ⟨kk.blk xO.blk xO.ne,⟨q,now',due,hr,hn,hd,rfl⟩,fun hy=>?_⟩;rcases hsub _ hy with e | e;exact xO.ne e;exact xO.blk.some e
    have ht:Zcs x.e.id c (q.F x.cb) z0=z0:=if_neg e;rw [ht];exact (h.ones z0 hz0).keep kk fun y hy hF=>h.disj hz0 hx e y hy (.inr hF)
  intro z hz y hy ht;obtain ⟨z0,hz0,rfl⟩:=List.mem_map.1 hz;rcases ownT z0 hz0 y hy with e | e;exact h.apart z0 hz0 y e ht;exact h.top_live ht e
  . show (p.L.map (Zcs x.e.id c (q.F x.cb))).Pairwise _;rw [List.pairwise_map];refine h.idsL.imp_of_mem fun {a b} ha hb hlt y h1 h2=>?_;rcases ownT a ha y h1 with e1 | e1
    . rcases ownT b hb y h2 with e2 | e2;exact h.disj ha hb (by omega) y e1 e2
      exact (h.ones a ha).live e1 e2
    . rcases ownT b hb y h2 with e2 | e2;exact (h.ones b hb).live e2 e1
      ·
        unfold Zcs at h1 h2;split at h1;rename_i ea;split at h2;rename_i eb;omega;exact (h.ones b hb).live h2 e2;exact (h.ones a ha).live h1 e1
  intro y hy;rcases hy with hy | ⟨z,hz,hy⟩;exact .inl (.inl hy);obtain ⟨z0,hz0,rfl⟩:=List.mem_map.1 hz;exact (ownT z0 hz0 y hy).imp (fun e=> .inr ⟨z0,hz0,e⟩) id
  . refine ⟨_,List.mem_map.2 ⟨x,hx,rfl⟩,?_⟩;have ht:Zcs x.e.id c (q.F x.cb) x=⟨{ x.e with c:=c },x.ob,x.cb,q.F x.cb⟩:=if_pos rfl
    rw [ht];exact ⟨rfl,rfl⟩
theorem StRep.atN (h:StRep H sb p S) {now:Int} (hn:S.now <= now) {K:Heap->Prop} (hk: ∀H',StRep H' sb p (S.at_ now)->Keep (fun y=>y=sb) H H'->K H'):Za H ⟨sb,6,none⟩ (.int .i64 now) K:=by
  refine stL h.blk (by simp [stL7]) rfl fun H1 b1 k1=>hk H1 ?_ k1
  obtain ⟨n1,n2⟩:=h.sb_ne;obtain ⟨es1,ck1,m1,e1⟩:=h.m1;obtain ⟨es2,ck2,m2,e2⟩:=h.m2;have:=h.ok.now;exact ⟨h.ok.at_ (Int.le_trans this hn),b1,h.ports.keep k1 fun y hy e=>h.pa_ne hy (.inl e),⟨es1,ck1,m1.keep k1 fun e=>n1 e.symm,e1⟩,⟨es2,ck2,m2.keep k1 fun e=>n2 e.symm,e2⟩,h.l,
    fun x hx=>((h.ones x hx).keep k1 fun y hy e=>h.apart x hx y hy (.inl e)).later hn,h.bi,h.apart,h.pw⟩
structure StDid (H H':Heap) (sb:Nat) (p:StP) (S:Stk) (u:Value) (to:Nat) (bs:List (List Int)):Prop where
  ex: ∃Hm p',StRep H' sb p' S∧Keep (p.G sb) H H'∧(∀y,p'.G sb y->p.G sb y∨H y=none)∧OutRow Hm H' u to bs∧Keep (p.G sb) H Hm∧∀y,p'.G sb y->Hm y≠none
theorem OutRow.keep {H0:Heap} {v:Value} {to:Nat} {bs:List (List Int)} {Z:Nat->Prop} (h:OutRow H0 H v to bs) (k:Keep Z H H') (hz: ∀y,H0 y=none->¬Z y):OutRow H0 H' v to bs:=by obtain ⟨a,c,xs,h1,h2,h3,h4⟩:=h.ex;exact ⟨a,c,xs,h1,h2,h3.keep k fun y hy=>hz y (h3.free hy),fun x hx=>Sh.Own.keep (h4 x hx) k fun y hy=>hz y (Sh.Own.free (h4 x hx) hy)⟩
theorem OutRow.shut {H0 H1:Heap} {v:Value} {to:Nat} {bs:List (List Int)} (h:OutRow H0 H v to bs) (hs:Shut H1 H H'):OutRow H0 H' v to bs:=by obtain ⟨a,c,xs,h1,h2,h3,h4⟩:=h.ex;exact ⟨a,c,xs,h1,h2,Zbn h3 hs,fun x hx=>Zbn (h4 x hx) hs⟩
theorem OutRow.nil {H0:Heap} {to:Nat}:OutRow H0 H (.slice none 0 0) to []:=⟨none,0,[],rfl,rfl,Sh.Own.nil,fun x h=>(by cases h)⟩
theorem OutRow.slice {H0:Heap} {v:Value} {to:Nat} {bs:List (List Int)} (h:OutRow H0 H v to bs): ∃a n c,v= .slice a n c:=by obtain ⟨a,c,xs,h1,_⟩:=h.ex;exact ⟨_,_,_,h1⟩
theorem EvRow.shut {H0 H1:Heap} {v:Value} {es:List (Int×Int)} (h:EvRow H0 H v es) (hs:Shut H1 H H'):EvRow H0 H' v es:=by obtain ⟨a,c,h1,h2⟩:=h.ex;exact ⟨a,c,h1,Zbn h2 hs⟩
theorem EvRow.nil {H0:Heap}:EvRow H0 H (.slice none 0 0) []:=⟨none,0,rfl,Sh.Own.nil⟩
theorem EvRow.slice {H0:Heap} {v:Value} {es:List (Int×Int)} (h:EvRow H0 H v es): ∃a n c,v= .slice a n c:=by obtain ⟨a,c,h1,_⟩:=h.ex;exact ⟨_,_,_,h1⟩
theorem StDid.shut {H1:Heap} {u:Value} {to:Nat} {bs:List (List Int)} (h:StDid H H1 sb p S u to bs) (hs:Shut H H1 H'):StDid H H' sb p S u to bs:=by obtain ⟨Hm,p',h1,h2,h3,h4,h5,h6⟩:=h.ex;exact ⟨Hm,p',h1.shut hs,Zbl h2 hs,h3,h4.shut hs,h5,h6⟩
theorem StDid.slice {u:Value} {to:Nat} {bs:List (List Int)} (h:StDid H H' sb p S u to bs): ∃a n c,u= .slice a n c:=by obtain ⟨Hm,p',h1,h2,h3,h4,h5,h6⟩:=h.ex;exact h4.slice
theorem Zzw (h:StRep H sb p S) {to:Nat} (hto:to<4294967296) {v:Value} {l:List Sg} (hl:SegsAt H v l) (hn:l.length <= 5000):
    ∃a n c,v= .slice a n c∧FnW Tryz.prog Zha ⟨[.pointer (some ⟨sb,0,none⟩),.int .u32 to,v]⟩ H fun v H'=>OutRow H H' v to (l.map (outV S.me to))∧Keep Nil H H':=by
  obtain ⟨a,c,xs,rfl,rfl,hr,hx⟩:=hl.ex;refine ⟨_,_,_,rfl,?_⟩;refine (Zbgz (S:=S) ⟨_,h.blk⟩ h.ok.me hto hr hx (by simpa using hn)).mono ?_
  rintro v H' ⟨h1,h2⟩;rw [List.map_map];exact ⟨h1,h2⟩
end
end Go.Proofs.YtaljkjokbdpdoaaGreat
end
section
set_option maxRecDepth 100000
namespace Go.Proofs.YtaljkjokbdpdoaaGreat
open Go.Sh Go.Pc Go.Conn
section
variable {H H':Heap} {sb:Nat} {p:StP} {S:Stk}
theorem StRep.lenI (h:StRep H sb p S) {K:Value->Heap->Prop} (hk:K (.int .i64 S.l.length) H):SemW Tryz.prog (Builtin.len_ #[Zdy] Zl ⟨[.map (some p.im)]⟩) H K:=by
  obtain ⟨es2,ck2,m2,e2⟩:=h.m2;refine LenG mapI m2 ?_;have:es2.length=S.l.length:=by have h1:=congrArg List.length e2.pairs;rw [List.length_map,List.length_map] at h1;rw [h1,← h.l,List.length_map]
  rw [this];exact hk
theorem StRep.lookK (h:StRep H sb p S) (k:Key) {K:Value->Heap->Prop} (h1:S.byK k=none->K (.pointer none) H) (h2: ∀x∈p.L,x.e.k=k->S.byK k=some x.e->K (ptrO x) H):SemW Tryz.prog (Instr.lookup Zfd (.map (some p.bm)) (kvK k) false) H K:=by
  obtain ⟨es1,ck1,m1,e1⟩:=h.m1;refine LkG keyK mapK m1 ?_;rw [e1.get];have hb:=h.byK k;cases hf:p.L.find? fun x=>decide (k=x.e.k) with
  | none=>rw [hf] at hb;exact h1 hb
  | some x=>
    rw [hf] at hb;have hd:=List.find?_some hf;exact h2 x (List.mem_of_find?_eq_some hf) (of_decide_eq_true (p:=k=x.e.k) hd).symm hb
theorem StRep.lookI (h:StRep H sb p S) (i:Int) {K:Value->Heap->Prop} (h1:S.byI i=none->K (.pointer none) H) (h2: ∀x∈p.L,(x.e.id:Int)=i->S.byI i=some x.e->K (ptrO x) H):SemW Tryz.prog (Instr.lookup Zdy (.map (some p.im)) (.int .i64 i) false) H K:=by
  obtain ⟨es2,ck2,m2,e2⟩:=h.m2;refine LkG (kv:=kvI) keyI mapI m2 ?_;rw [e2.get];have hb:=h.byI i;cases hf:p.L.find? fun x=>decide (i=(x.e.id:Int)) with
  | none=>rw [hf] at hb;exact h1 hb
  | some x=>
    rw [hf] at hb;have hd:=List.find?_some hf;exact h2 x (List.mem_of_find?_eq_some hf) (of_decide_eq_true (p:=i=(x.e.id:Int)) hd).symm hb
theorem Zcaz {H0:Heap} {s:Sg} (h1:s.seq<4294967296) (h2:s.ack<4294967296) (h3:s.data= []):SegO H (s,none,0):=⟨h1,h2,by rw [h3];exact Reads.nil,by rw [h3];exact AllB.nil⟩
theorem Zbzu {s r:Sg} (hs:s.reset=some r) (h2:s.ack<4294967296):r.seq<4294967296∧r.ack<4294967296∧r.data= []:=by
  unfold Sg.reset at hs;split at hs;cases hs;split at hs;cases hs;exact ⟨h2,(show 0<4294967296 by decide),rfl⟩
  cases hs;exact ⟨(show 0<4294967296 by decide),Zbb _ _,rfl⟩
theorem StDid.mk' {Hm:Heap} {p':StP} {u:Value} {to:Nat} {bs:List (List Int)} (h:StRep H' sb p' S) (k:Keep (p.G sb) H H') (hg: ∀y,p'.G sb y->p.G sb y∨H y=none) (ho:OutRow Hm H' u to bs) (km:Keep (p.G sb) H Hm) (hl: ∀y,p'.G sb y->Hm y≠none):StDid H H' sb p S u to bs:=⟨Hm,p',h,k,hg,ho,km,hl⟩
theorem Zcbl (h:StRep H sb p S) {s:Sg} {fr:Nat} {a:Option Addr} {n c:Nat} (hfr:fr<4294967296) (hk:S.byK ((fr:Int),s.src,s.dst)=none) (hc:S.count<1000000) (hf:s.fits=true) (hl:s.data.length <= 65495) (hs:SgArg H (p.G sb) s a n):
    FnW Tryz.prog Zwt ⟨[.pointer (some ⟨sb,0,none⟩),kvK ((fr:Int),s.src,s.dst),.agg ⟨sgL s a n c⟩]⟩ H fun v H'=>StDid H H' sb p (S.stranger ((fr:Int),s.src,s.dst) s).2 v fr ((S.stranger ((fr:Int),s.src,s.dst) s).1.map (outV S.me fr)):=by
  refine Zcgq sb _ _ _ _ _ _ _ _ _ _ _ a n c ?_;unfold Zbmp;obtain ⟨_,_,_,_,_,f6,f7⟩:=Zgc hf;have hln:=hs.len;have hcan:s.can=true:=by unfold Sg.can;rw [hf,decide_eq_true hl];rfl
  refine newB fun kb H1 hkb bk k01=>newB fun xb H2 hxb bx k12=>ld9 bx ((Zbur (h.keep (k01.trans k12) fun _ _ h=>h) f6 f7 hln (by omega)).mono ?_)
  have k02:=k01.trans k12;rintro _ H3 ⟨rfl,k23⟩;have k03:=k02.trans k23;have bk3:=k23.blk (k12.blk bk id) id;have bx3:=k23.blk bx id;have h3:=h.keep k03 fun _ _ h=>h;refine ⟨_,rfl,IfB.intro (fun e=>ld9 bx3 ((Zbda f6 f7 hln (by omega) hs.seq hs.ack).mono ?_)) fun e=>?_⟩
  . have hd:S.dials s=false:=by cases hh:S.dials s with
      | false=>rfl
      | true=>rw [hh] at e;cases e
    have hst:S.stranger ((fr:Int),s.src,s.dst) s=(Cn.refuse s,S):=by unfold Stk.stranger;rw [hd];rfl
    rw [hst];rintro _ H4 ⟨rfl,k34⟩;have k04:=k03.trans k34;cases hre:s.reset with
    | none=>
      have hrf:Cn.refuse s= []:=by unfold Cn.refuse;rw [hre]
      rw [hrf];refine ⟨_,_,_,_,_,_,_,_,_,_,_,_,rfl,newB fun rb H5 hrb br k45=>st9 (s:=Zkr) br fun H6 br6 k56=>ifT rfl fun H7 hs7=>?_⟩;have k06:Keep Nil H H6:=(k04.trans k45).then k56 fun y hy=> .inr (hy▸k04.free hrb);exact StDid.shut (StDid.mk' (Hm:=H) (h.keep k06 fun _ _ h=>h) (k06.mono fun _ h=>h.elim) (fun y hy=> .inl hy) OutRow.nil (Keep.refl _ _) fun y hy=>h.live hy) hs7
    | some r=>
      have hrf:Cn.refuse s= [r]:=by unfold Cn.refuse;rw [hre]
      obtain ⟨r1,r2,r3⟩:=Zbzu hre hs.ack;rw [hrf];refine ⟨_,_,_,_,_,_,_,_,_,_,_,_,rfl,newB fun rb H5 hrb br k45=>st9 (s:=r) br fun H6 br6 k56=>ifF rfl ?_⟩;have k06:Keep Nil H H6:=(k04.trans k45).then k56 fun y hy=> .inr (hy▸k04.free hrb);have k46:Keep Nil H4 H6:=k45.then k56 fun y hy=> .inr (hy▸hrb);have bk6:=k46.blk (k34.blk bk3 id) id;refine ⟨_,cellL bk6 0 rfl,ld9 (s:=r) br6 (newB fun lb H7 hlb bl k67=>?_)⟩;have k07:=k06.trans k67;have h7:=h.keep k07 fun _ _ h=>h;have hr1:Reads H7 (some ⟨lb,0,none⟩) ([(r,(none:Option Addr),0)].length*9) (sgsL [(r,none,0)]):=by
        refine Reads.blk bl rfl fun j hj=>?_;rw [Nat.zero_add,List.getElem?_toArray];have:sgsL [(r,(none:Option Addr),0)]=sgL r none r.data.length 0:=by show sgL r none r.data.length 0++[]=_;rw [List.append_nil]
        rw [this,r3];rfl
      refine (Zbgz (S:=S) ⟨_,h7.blk⟩ h.ok.me hfr hr1 (fun x hx=>by rw [List.mem_singleton.1 hx];exact Zcaz (H0:=H) r1 r2 r3) (show 1 <= 5000 by omega)).mono ?_
      rintro v H8 ⟨ho,k78⟩;obtain ⟨oa,on,oc,rfl⟩:=ho.slice;have k08:=k07.trans k78;exact ⟨_,_,_,rfl,fun H9 hs9=>StDid.shut (StDid.mk' (Hm:=H7) (h.keep k08 fun _ _ h=>h) (k08.mono fun _ h=>h.elim) (fun y hy=> .inl hy) ho (k07.mono fun _ h=>h.elim) fun y hy=>k07.live y (h.live hy)) hs9⟩
  . have hd:S.dials s=true:=by cases hh:S.dials s with
      | true=>rfl
      | false=>rw [hh] at e;cases e
    obtain ⟨im,hse⟩: ∃im,im=p.im:=⟨_,rfl⟩;refine ⟨_,cellL h3.blk 4 rfl,h3.lenI ⟨_,rfl,IfB.intro (fun e16=>fun H4 hs4=>?_) fun e16=>?_⟩⟩
    . have e16:=of_decide_eq_true e16;have hst:S.stranger ((fr:Int),s.src,s.dst) s=([],S):=by unfold Stk.stranger;rw [hd,if_pos rfl,if_pos (by omega)]
      rw [hst];exact StDid.shut (StDid.mk' (Hm:=H) h3 (k03.mono fun _ h=>h.elim) (fun y hy=> .inl hy) OutRow.nil (Keep.refl _ _) fun y hy=>h.live hy) hs4
    have e16:=of_decide_eq_false e16;have hst:S.stranger ((fr:Int),s.src,s.dst) s=((accept s S.first).1,S.add ((fr:Int),s.src,s.dst) (accept s S.first).2):=by unfold Stk.stranger;rw [hd,if_pos rfl,if_neg (by omega)]
    rw [hst];unfold Stk.dials at hd;simp only [Bool.and_eq_true,Bool.not_eq_true',decide_eq_true_eq] at hd;obtain ⟨⟨⟨d1,d2⟩,d3⟩,⟨⟨d4,d5⟩,d6⟩,d7⟩:=hd;have hport:Zbf s.dst=true:=h.ok.ports _ (List.contains_iff_mem.1 d1);have hdata:s.data= []:=by
      have:s.span=s.data.length+1+0:=by unfold Sg.span;rw [d4,d5];rfl
      exact List.eq_nil_of_length_eq_zero (by omega)
    have hlive: ∀y,y∈[sb,xb]->∃o,H3 y=some o:=fun y hy=>by rcases List.mem_cons.1 hy with rfl | hy;exact ⟨_,h3.blk⟩;rw [List.mem_singleton.1 hy];exact ⟨_,bx3⟩
    have kp: ∀{Hx:Heap},Keep Nil H3 Hx->Zb [sb,xb] H3 Hx:=fun kx y hy=>by obtain ⟨o,ho⟩:=hlive y hy;exact ⟨⟨o,ho⟩,kx.same y id (by rw [ho];simp)⟩
    refine ⟨[sb,xb],hlive,List.mem_cons_self,_,cellL h3.blk 6 rfl,List.mem_cons_of_mem _ (List.mem_singleton.2 rfl),ld9 bx3 ((Zbex h3 hc).mono ?_)⟩;rintro _ _ ⟨rfl,e⟩;rw [e];clear e;have hsA:SgArg H3 Nil s a n:=hs.step k03 (fun _ h=>h.elim) fun _ h=>h.elim;refine ⟨_,rfl,kp (Keep.refl _ _),(Zbso h.ok.now (Zbb _ _) hsA hcan d3 hport d4 d7 d6 d5 hdata).mono ?_⟩;rintro _ H4 ⟨cb,u,rfl,hleft⟩;obtain ⟨ac1,ac2⟩:=Zbdd hf S.first;have hsegs:=Zbas hleft ac1;obtain ⟨q,now',due,ga,gc,xs,hv,hm,hn,hr,hdu,kk,hsub,ho⟩:=hleft.ex;have hm:xs.map (·.1)=(accept s S.first).1:=hm;have k34:Keep Nil H3 H4:=kk;have k04:=k03.trans k34;have h4:=h.keep k04 fun _ _ h=>h;obtain ⟨ua,un,uc,rfl⟩: ∃a n c,u= .slice a n c:=⟨_,_,_,hv⟩;have bk4:=k34.blk bk3 id;have hFn: ∀y,q.F cb y->H y=none:=fun y hy=>k03.free ((hsub y hy).elim (fun z=>z.elim) id);refine ⟨_,_,_,_,_,rfl,kp k34,ifF rfl ⟨_,cellL bk4 0 rfl,_,cellL bk4 1 rfl,_,cellL bk4 2 rfl,(Zbih h4 (k:=((fr:Int),s.src,s.dst)) (c:=(accept s S.first).2) (cb:=cb) (F:=q.F cb) hk (by omega) hc ⟨q,now',due,hr,hn,hdu,rfl⟩ (fun y hy hG=>h.live hG (hFn y hy)) ac2).mono ?_⟩⟩
    rintro _ H5 ⟨ob,p5,rfl,h5,hcell,k45,hG5⟩;have kbT: ∀y,p.top sb y->y≠kb:=fun y hy e=>h.top_live hy (e▸hkb);have bk5:=k45.blk bk4 fun e=>kbT _ e rfl;have hT: ∀y,p.top sb y->¬q.F cb y:=fun y hy hF=>h.top_live hy (hFn y hF);have hsegs5:SegsAt H5 (.slice ua un uc) (accept s S.first).1:=by
      obtain ⟨a',c',ys,w1,w2,w3,w4⟩:=hsegs.ex;obtain ⟨e1,e2,e3⟩:ua=ga∧un=xs.length∧uc=gc:=by cases hv;exact ⟨rfl,rfl,rfl⟩
      refine ⟨ga,gc,xs,by rw [e1,e2,e3],hm,?_,fun z hz=>?_⟩
      have:=ho.own.keep k45 (fun y hy hTy=>h.top_live hTy (k03.free (ho.own.free hy)));exact this.reads;have hd:=ho.all z hz;refine ⟨hd.seq,hd.ack,hd.rd.keep k45 fun ad had hTy=>h.top_live hTy (k03.free (hd.new ad had).1),(ac1 z.1 (by rw [← hm];exact List.mem_map.2 ⟨z,hz,rfl⟩)).data⟩
    obtain ⟨oa,on,oc,eo,hout⟩:=Zzw h5 hfr hsegs5 (by show 1 <= 5000;omega)
    refine ⟨_,rfl,_,cellL bk5 0 rfl,hout.mono ?_⟩;rintro v H6 ⟨hor,k56⟩;obtain ⟨va,vn,vc,rfl⟩:=hor.slice;have kG:Keep (p.G sb) H H5:=(k04.mono fun _ h=>h.elim).trans (k45.mono fun y hy=> .inl hy);refine ⟨_,_,_,rfl,fun H7 hs7=>StDid.shut (StDid.mk' (Hm:=H5) (h5.keep k56 fun _ _ h=>h) (kG.trans (k56.mono fun _ h=>h.elim)) (fun y hy=>?_) hor kG fun y hy=>h5.live hy) hs7⟩;rcases hG5 y hy with e | e | e;exact .inl e;exact .inr (hFn y e);exact .inr (k04.free e)
end
end Go.Proofs.YtaljkjokbdpdoaaGreat
end
section
set_option maxRecDepth 100000
namespace Go.Proofs.YtaljkjokbdpdoaaGreat
open Go.Sh Go.Pc Go.Conn
section
variable {H H':Heap} {sb:Nat} {p:StP} {S:Stk}
theorem StDid.rebase {H0:Heap} {u:Value} {to:Nat} {bs:List (List Int)} (hd:StDid H H' sb p S u to bs) (k:Keep (p.G sb) H0 H):StDid H0 H' sb p S u to bs:=by obtain ⟨Hm,p',q1,q2,q3,q4,q5,q6⟩:=hd.ex;exact ⟨Hm,p',q1,k.trans q2,fun y hy=>(q3 y hy).imp id fun e=>k.free e,q4,k.trans q5,q6⟩
structure StTook (H H':Heap) (sb:Nat) (p:StP) (S:Stk) (u:Value) (to:Nat) (bs:List (List Int)) (w:Value) (es:List (Int×Int)):Prop where
  ex: ∃Hm He p',StRep H' sb p' S∧Keep (p.G sb) H H'∧(∀y,p'.G sb y->p.G sb y∨H y=none)∧OutRow Hm H' u to bs∧Keep (p.G sb) H Hm∧(∀y,p'.G sb y->Hm y≠none)∧EvRow He H' w es∧Keep (p.G sb) H He∧∀y,p'.G sb y->He y≠none
theorem StTook.shut {H1:Heap} {u w:Value} {to:Nat} {bs:List (List Int)} {es:List (Int×Int)} (h:StTook H H1 sb p S u to bs w es) (hs:Shut H H1 H'):StTook H H' sb p S u to bs w es:=by obtain ⟨Hm,He,p',h1,h2,h3,h4,h5,h6,h7,h8,h9⟩:=h.ex;exact ⟨Hm,He,p',h1.shut hs,Zbl h2 hs,h3,h4.shut hs,h5,h6,h7.shut hs,h8,h9⟩
theorem StDid.took {u:Value} {to:Nat} {bs:List (List Int)} (hd:StDid H H' sb p S u to bs):StTook H H' sb p S u to bs (.slice none 0 0) []:=by obtain ⟨Hm,p',q1,q2,q3,q4,q5,q6⟩:=hd.ex;exact ⟨Hm,H',p',q1,q2,q3,q4,q5,q6,EvRow.nil,q2,fun y hy=>q1.live hy⟩
theorem take_at (h:StRep H sb p S) {now:Int} {fr n c:Nat} {a:Option Addr} {b:List Int} (hfr:fr<4294967296) (hn:S.now <= now) (hc:S.count<1000000) (hr: ∀H',Keep (fun y=>y=sb) H H'->Reads H' a n (bv b)) (hb:AllB b) (hn4:n <= 60000) (hnc:n <= c):
    FnW Tryz.prog Zln ⟨[.pointer (some ⟨sb,0,none⟩),.int .i64 now,.int .u32 fr,.slice a n c]⟩ H fun v H'=>∃u w,v= .tuple ⟨[u,w,.int .i64 0]⟩∧StTook H H' sb p (S.take now fr b).S u fr ((S.take now fr b).outs.map (outV S.me fr)) w (S.take now fr b).evs:=by
  refine Zceh sb now fr a n c ?_;unfold Zbkt;refine (Zbgh h hn).mono ?_;rintro _ _ ⟨rfl,e⟩;rw [e];clear e;have hbl:b.length=n:=by have:=(hr H (Keep.refl _ _)).len;simpa using this
  refine ⟨_,rfl,ifF rfl (h.atN hn fun H2 h2 k02=>⟨_,cellL h2.blk 0 rfl,?_⟩)⟩;refine (Zuy hfr h.ok.me (hr H2 k02) hb hnc (by omega)).mono ?_
  rintro _ H3 ⟨hrr,k23⟩;have kS:Keep (p.G sb) H H3:=(k02.mono fun y e=> .inl (.inl e)).trans (k23.mono fun _ h=>h.elim);have h3:=h2.keep k23 fun _ _ h=>h;cases hrd:Zcd fr S.me b with
  | none=>
    rw [hrd] at hrr;have hrr:_=_:=hrr;subst hrr;have ht:S.take now fr b=⟨[],[],S.at_ now⟩:=by unfold Stk.take;rw [hrd]
    rw [ht];refine ⟨_,_,_,_,_,_,_,_,_,_,_,_,rfl,newB fun xb H4 hxb bx k34=>st9 (s:=noSg) bx fun H5 bx5 k45=>ifT rfl fun H6 hs=>?_⟩;have k35:Keep Nil H3 H5:=k34.then k45 fun y hy=> .inr (hy▸hxb);exact ⟨_,_,rfl,StTook.shut (StDid.took (StDid.mk' (Hm:=H) (h3.keep k35 fun _ _ h=>h) (kS.trans (k35.mono fun _ h=>h.elim)) (fun y hy=> .inl hy) OutRow.nil (Keep.refl _ _) fun y hy=>h.live hy)) hs⟩
  | some s=>
    rw [hrd] at hrr;obtain ⟨da,dc,rfl,od⟩:=hrr;obtain ⟨r1,r2,r3,r4,r5⟩:=Zbhp hb hrd;have ht:S.take now fr b=(S.at_ now).meet fr s:=by unfold Stk.take;rw [hrd]
    rw [ht];refine ⟨_,_,_,_,_,_,_,_,_,_,_,_,rfl,newB fun xb H4 hxb bx k34=>st9 (s:=s) bx fun H5 bx5 k45=>ifF rfl ⟨_,cellL bx5 0 rfl,_,cellL bx5 1 rfl,newB fun kb H6 hkb bk k56=>stL bk (by simp) rfl fun H7 bk7 k67=>stL bk7 (by simp) rfl fun H8 bk8 k78=>stL bk8 (by simp) rfl fun H9 bk9 k89=>?_⟩⟩
    have k35:Keep Nil H3 H5:=k34.then k45 fun y hy=> .inr (hy▸hxb);have k59:Keep Nil H5 H9:=((k56.then k67 fun y hy=> .inr (hy▸hkb)).then k78 fun y hy=> .inr (hy▸hkb)).then k89 fun y hy=> .inr (hy▸hkb);have k39:=k35.trans k59;have h9:=h3.keep k39 fun _ _ h=>h;have bx9:=k59.blk bx5 id;have kS9:Keep (p.G sb) H H9:=kS.trans (k39.mono fun _ h=>h.elim);have od9:Sh.Own H2 H9 da s.data.length dc 1 Zh (bv s.data):=od.keep k39 fun _ _ h=>h;have hsA: ∀{G:Nat->Prop},(∀y,G y->H2 y≠none)->SgArg H9 G s da s.data.length:=fun hG=>by
      refine ⟨r2,r3,by have:=od9.reads;rwa [Nat.mul_one] at this,fun x hx=>?_⟩
      rcases od9.2.2 with ⟨e,_⟩ | ⟨m,rest,e,h0,hB,_⟩;rw [e] at hx;cases hx;rw [e] at hx;cases hx;exact ⟨hB.some,fun hy=>hG _ hy h0⟩
    refine ⟨_,cellL h9.blk 3 rfl,_,cellL bk9 0 rfl,_,cellL bk9 1 rfl,_,cellL bk9 2 rfl,h9.lookK ((fr:Int),s.src,s.dst) (fun hno=>⟨_,rfl,ifF rfl ?_⟩) fun x hx hxk hsome=>⟨_,rfl,ifT rfl ((Zbgd (h9.ones x hx)).mono ?_)⟩⟩
    ·
      have hm:(S.at_ now).meet fr s=⟨((S.at_ now).stranger ((fr:Int),s.src,s.dst) s).1,[],((S.at_ now).stranger ((fr:Int),s.src,s.dst) s).2⟩:=by unfold Stk.meet;rw [hno]
      rw [hm];refine ⟨_,cellL bk9 0 rfl,_,cellL bk9 1 rfl,_,cellL bk9 2 rfl,ld9 bx9 ((Zcbl h9 hfr hno hc r1 (by omega) (hsA fun y hy=>h2.live hy)).mono ?_)⟩
      rintro u H10 hd;obtain ⟨ua,un,uc,rfl⟩:=hd.slice;exact ⟨_,_,_,rfl,fun H11 hs=>⟨_,_,rfl,(hd.rebase kS9).took.shut hs⟩⟩
    . rintro _ H10 ⟨rfl,k910⟩;have h10:=h9.keep k910 fun _ _ h=>h;refine ⟨_,_,rfl,newB fun wb H11 hwb bw k1011=>stL bw (by simp) rfl fun H12 bw12 k1112=>stL bw12 (by simp) rfl fun H13 bw13 k1213=>?_⟩
      have k1013:Keep Nil H10 H13:=(k1011.then k1112 fun y hy=> .inr (hy▸hwb)).then k1213 fun y hy=> .inr (hy▸hwb);have k913:=k910.trans k1013;have h13:=h9.keep k913 fun _ _ h=>h;have hone:=h13.ones x hx;have bx13:=k913.blk bx9 id;have kS13:Keep (p.G sb) H H13:=kS9.trans (k913.mono fun _ h=>h.elim);have hxF: ∀y,x.F y->p.G sb y:=fun y hy=> .inr ⟨x,hx,.inr hy⟩;have hsX:SgArg H13 x.F s da s.data.length:=(hsA fun y hy=>h2.live (hxF y hy)).step k913 (fun _ h=>h.elim) fun y hy=> .inl hy;obtain ⟨⟨a1,a2⟩,a3⟩:=(h13.ok.fine x.e (h13.mem hx)).Take r1 r4;refine NilP.intro _ rfl ⟨_,cellL hone.blk 4 rfl,ld9 bx13 ((Zbsn hone.con (Int.le_trans h.ok.now hn) hsX).mono ?_)⟩;rintro _ H14 ⟨u,rfl,hleft⟩;obtain ⟨p14,h14,pt,pb,pi,k1314,hG14,x',hx',he',hob'⟩:=h13.turnL hx hleft a2;have hsegs:=Zbas hleft a1;obtain ⟨oa,on,oc,eo,hout⟩:=Zzw h14 hfr hsegs (by omega)
      subst eo;have wG: ∀y,p.G sb y->y≠wb:=fun y hy e=>(h10.live hy) (e▸hwb);have bw14:=k1314.blk bw13 fun hy=>wG _ hy rfl;have wn:wb∈[wb]:=List.mem_singleton.2 rfl;obtain ⟨kp1,kp0⟩:=Zcq bw14.some;refine ⟨_,_,_,_,rfl,[wb],kp1,wn,_,cellL bw14 0 rfl,_,cellL bw14 1 rfl,hout.mono ?_⟩;rintro u2 H15 ⟨hor,k1415⟩;obtain ⟨va,vn,vc,rfl⟩:=hor.slice;have h15:=h14.keep k1415 fun _ _ h=>h;refine ⟨_,_,_,rfl,fun y hy=>by
        rw [List.mem_singleton.1 hy];exact ⟨⟨_,bw14⟩,k1415.same _ id bw14.some⟩,?_⟩
      have hptr:(some ⟨x.ob,0,none⟩:Option Addr)=some ⟨x'.ob,0,none⟩:=by rw [hob']
      rw [hptr];refine (Zbuv h15 hx' x.e.c.st x.e.c.ready).mono ?_;rintro w H16 ⟨p16,hev,h16,k1516,hG16⟩;obtain ⟨wa,wn,wc,rfl⟩:=hev.slice;have e1:x'.e.id=x.e.id:=by rw [he']
      have e2:x'.e.c=(x.e.c.Take s).2.2:=by rw [he']
      rw [e1,e2] at hev h16;have hm:(S.at_ now).meet fr s=⟨(x.e.c.Take s).1,evs x.e.id x.e.c.st x.e.c.ready (x.e.c.Take s).2.2,((S.at_ now).turn x.e.id (x.e.c.Take s).2.2).settle x.e.id (x.e.c.Take s).2.2⟩:=by unfold Stk.meet;rw [hsome]
      rw [hm];have kS14:=kS13.trans k1314;have kS15:Keep (p.G sb) H H15:=kS14.trans (k1415.mono fun _ h=>h.elim);have mG: ∀y,(y=p14.bm∨y=p14.im)->p.G sb y:=fun y hy=>by rw [pb,pi] at hy;exact .inl (.inr (hy.imp id .inl))
      have kS16:Keep (p.G sb) H H16:=kS15.trans (k1516.mono mG);refine ⟨_,_,_,rfl,fun H17 hs=>⟨_,_,rfl,StTook.shut ⟨H14,H15,p16,h16,kS16,fun y hy=>?_,hor.keep k1516 fun y hy hz=>?_,kS14,fun y hy=>h14.live (hG16 y hy),hev,kS15,fun y hy=>h15.live (hG16 y hy)⟩ hs⟩⟩;exact (hG14 y (hG16 y hy)).imp id fun e=>kS13.free e;refine h14.live ?_ hy;exact .inl (.inr (hz.imp id .inl))
end
end Go.Proofs.YtaljkjokbdpdoaaGreat
end
section
set_option maxRecDepth 100000
namespace Go.Proofs.YtaljkjokbdpdoaaGreat
open Go.Sh Go.Pc Go.Conn
def newS (me seed:Nat):Stk:=⟨me,seed,[],[],0,0⟩
theorem Zbwt {me seed:Nat} (h1:me<4294967296) (h2:seed<4294967296):(newS me seed).Ok:=
  ⟨h1,h2,(fun p h=>by cases h),Nat.zero_le _,Int.le_refl 0,Nat.zero_le _,List.Pairwise.nil,List.nodup_nil,(fun e h=>by cases h),(fun e h=>by cases h)⟩
section
variable {H H':Heap} {sb:Nat} {p:StP} {S:Stk}
theorem Zux {me seed:Nat} (h1:me<4294967296) (h2:seed<4294967296):FnW Tryz.prog Zlk ⟨[.int .u32 me,.int .u32 seed]⟩ H fun v H'=>∃sb p,v= .pointer (some ⟨sb,0,none⟩)∧StRep H' sb p (newS me seed)∧Keep Nil H H'∧∀y,p.G sb y->H y=none:=by
  refine Zccb me seed ?_;unfold Zbiw;refine MkG fun b1 hb1=>MkG fun b2 hb2=>newB fun sb H3 hsb bs k23=>fun H4 hs=>?_;have k01:Keep Nil H (H.upd b1 (.map ⟨[]⟩ 0)):=(Keep.refl _ _).new hb1;have m1:MapB kvK (H.upd b1 (.map ⟨[]⟩ 0)) b1 [] 0:=upd_eq;generalize H.upd b1 (.map ⟨[]⟩ 0)=H1 at*;have k12:Keep Nil H1 (H1.upd b2 (.map ⟨[]⟩ 0)):=(Keep.refl _ _).new hb2;have m2:MapB kvI (H1.upd b2 (.map ⟨[]⟩ 0)) b2 [] 0:=upd_eq;generalize H1.upd b2 (.map ⟨[]⟩ 0)=H2 at*;have hne:b1≠b2:=fun e=>m1.some (e▸hb2);have k03:=(k01.trans k12).trans k23;have e0: ∀{κ:Type},Ents (κ:=κ) [] 0 []:=⟨(fun e h=>by cases h),List.nodup_nil,rfl⟩
  refine ⟨sb,⟨b1,b2,none,0,[]⟩,rfl,StRep.shut (H0:=H) ⟨Zbwt h1 h2,bs,Sh.Own.nil,⟨[],0,(m1.keep k12 id).keep k23 id,e0⟩,⟨[],0,m2.keep k23 id,e0⟩,rfl,(fun x h=>by cases h),hne,(fun x h=>by cases h),List.Pairwise.nil⟩ hs,Zk k03 hs,fun y hy=>?_⟩
  rcases hy with (rfl | rfl | rfl | hy) | ⟨x,hx,_⟩;exact (k01.trans k12).free hsb;exact hb1;exact k01.free hb2;cases hy;cases hx
theorem Zbcz (h:StRep H sb p S) {n:Int} (hp:Zbf n=true) (hc:S.ports.contains n=false) (hl:S.ports.length<8):
    FnW Tryz.prog Zlm ⟨[.pointer (some ⟨sb,0,none⟩),.int .i64 n]⟩ H fun v H'=>∃p',v= .int .i64 0∧StRep H' sb p' { S with ports:=S.ports++[n] }∧Keep (p.G sb) H H'∧∀y,p'.G sb y->p.G sb y∨H y=none:=by
  refine Zceg sb n ?_;unfold Zbks;refine (Zqr h).mono ?_;rintro _ _ ⟨rfl,e⟩;rw [e];clear e;refine ⟨_,rfl,ifF rfl (Zbbg.mono ?_)⟩;rintro _ _ ⟨rfl,e⟩;rw [e,hp];clear e;have hr:Reads H p.pa S.ports.length (S.ports.map (Value.int .i64)):=by have:=h.ports.reads;rwa [Nat.mul_one] at this
  refine ⟨_,rfl,ifF rfl ⟨_,_,_,cellL h.blk 2 rfl,(index_spec hr (by omega) n).mono ?_⟩⟩
  rintro _ _ ⟨rfl,e⟩;rw [e,hc];clear e;refine ⟨_,rfl,ifF rfl ⟨_,_,_,cellL h.blk 2 rfl,ifF ?_ ⟨_,_,_,cellL h.blk 2 rfl,newB fun q H1 hq b1 k01=>?_⟩⟩⟩
  . have hn8: ¬((S.ports.length:Nat):Int)=8:=by omega
    simpa using hn8
  have hrq:Reads H1 (some ⟨q,0,none⟩) (1*1) ([n].map (Value.int .i64)):=Reads.blk b1 rfl fun j hj=>by rw [Nat.zero_add,List.getElem?_toArray];rfl
  obtain ⟨it,i1,i2,i3⟩:=Zbvp;have kE:Keep (fun _=>True) emp H1:=⟨fun y hy=>absurd trivial hy,fun y hy=>absurd rfl hy⟩;refine Zgj (e:=Zl) (xe:=Zl) (z:=[.int .i64 0]) (by kernel_rfl) (by kernel_rfl) i1 i2 i3 (by decide) (by kernel_rfl) rfl (h.ports.keep k01 fun _ _ h=>h) kE (new:=[n].map (Value.int .i64)) hrq (fun v hv=>by rw [List.mem_singleton.1 hv];rfl) (by omega) fun a' cap' H2 _ q1 q2 q3 q4=>⟨_,_,_,rfl,?_⟩
  have h1:=h.keep k01 fun _ _ h=>h;have hsp: ¬p.pa=some ⟨sb,0,none⟩:=fun e=>h.pa_ne e (.inl rfl);have bs2:=q3.blk h1.blk hsp;refine stL bs2 (by simp [stL7]) rfl fun H3 b3 k23=>fun H4 hs=>?_
  obtain ⟨n1,n2⟩:=h.sb_ne;obtain ⟨es1,ck1,m1,e1⟩:=h1.m1;obtain ⟨es2,ck2,m2,e2⟩:=h1.m2;have kz:Keep (fun y=>y=sb∨p.pa=some ⟨y,0,none⟩) H1 H3:=(q3.mono fun y e=> .inr e).trans (k23.mono fun y e=> .inl e);have zT: ∀y,(y=sb∨p.pa=some ⟨y,0,none⟩)->p.top sb y:=fun y hy=>hy.imp id fun e=> .inr (.inr e);have ka: ∀y,a'=some ⟨y,0,none⟩->p.pa=some ⟨y,0,none⟩∨H1 y=none:=fun y hy=>q2 y hy;have npm: ∀{b:Nat},b=p.bm∨b=p.im->¬(b=sb∨p.pa=some ⟨b,0,none⟩):=fun {b} hb he=>by rcases he with e | e;rcases hb with e2 | e2;exact n1 (e▸e2);exact n2 (e▸e2);exact h.pa_ne e (.inr hb)
  have ok:({ S with ports:=S.ports++[n] }:Stk).Ok:=by have:=h.ok;refine ⟨this.me,this.seed,fun z hz=>?_,?_,this.now,this.len,this.ids,this.keys,this.le,this.fine⟩;rcases List.mem_append.1 hz with hz | hz;exact this.ports z hz;rw [List.mem_singleton.1 hz];exact hp;show (S.ports++[n]).length <= 8;rw [List.length_append];simp;omega
  have hlen:S.ports.length+1=(S.ports++[n]).length:=by simp
  rw [← List.map_append,hlen] at q1;rw [hlen] at b3;have k03:Keep (p.G sb) H H3:=(k01.mono fun _ h=>h.elim).trans (kz.mono fun y hy=> .inl (zT y hy));refine ⟨{ p with pa:=a',pc:=cap' },rfl,StRep.shut (H0:=H) ⟨ok,b3,q1.keep k23 fun y hy e=>?_,⟨es1,ck1,m1.keep kz (npm (.inl rfl)),e1⟩,⟨es2,ck2,m2.keep kz (npm (.inr rfl)),e2⟩,h.l,fun x hx=>(h1.ones x hx).keep kz fun y hy e=>h.apart x hx y hy (zT y e),h.bi,fun x hx y hy ht=>?_,h.pw⟩ hs,Zbl k03 hs,fun y hy=>?_⟩
  obtain ⟨cs,hb⟩:=q1.live hy;rw [e] at hb;exact absurd (Zcl hb bs2) (by decide)
  rcases ht with e | e | e | e;exact h.apart x hx y hy (.inl e);exact h.apart x hx y hy (.inr (.inl e));exact h.apart x hx y hy (.inr (.inr (.inl e)));rcases ka y e with e | e;exact h.apart x hx y hy (.inr (.inr (.inr e)));exact (h1.ones x hx).live hy e;rcases hy with (e | e | e | e) | hy;exact .inl (.inl (.inl e));exact .inl (.inl (.inr (.inl e)));exact .inl (.inl (.inr (.inr (.inl e))));rcases ka y e with e | e;exact .inl (.inl (.inr (.inr (.inr e))));exact .inr (k01.free e);exact .inl (.inr hy)
def Stk.state (S:Stk) (i:Int):Nat:=match S.byI i with
  | some e=>e.c.st
  | none=>0
theorem Zbiq (h:StRep H sb p S) (i:Int):FnW Tryz.prog Zpu ⟨[.pointer (some ⟨sb,0,none⟩),.int .i64 i]⟩ H fun v H'=>v= .int .i64 (Stk.state S i)∧H'=H:=by
  refine Zcka sb i ?_;unfold Zbql;refine (Zqr h).mono ?_;rintro _ _ ⟨rfl,e⟩;rw [e];clear e;refine ⟨_,rfl,ifF rfl ⟨_,cellL h.blk 4 rfl,h.lookI i (fun hno=>⟨_,rfl,?_⟩) fun x hx hi hsome=>⟨_,rfl,?_⟩⟩⟩;unfold Zuf;refine ifT rfl fun H2 hs=>⟨?_,(Zf hs).symm⟩;unfold Stk.state;rw [hno];rfl
  . unfold Zuf;obtain ⟨q,n,d,hq,_⟩:=(h.ones x hx).con.ex;refine ifF rfl ⟨_,cellL h.blk 4 rfl,h.lookI i (fun hno=>by rw [hno] at hsome;cases hsome) fun z hz hzi hzs=>⟨_,rfl,NilP.intro _ rfl ?_⟩⟩
    rw [hsome] at hzs;have hzx:z=x:=h.oneB hz hx (by omega)
    subst hzx;refine ⟨_,cellL (h.ones z hz).blk 4 rfl,(Zbdb hq).mono ?_⟩;rintro _ _ ⟨rfl,e⟩;rw [e];refine ⟨_,rfl,fun H2 hs=>⟨?_,(Zf hs).symm⟩⟩;unfold Stk.state;rw [hsome]
def ownP (S:Stk):Int:=49152+(((S.count+1)%16384:Nat):Int)
theorem Zcah (h:StRep H sb p S) {now n:Int} {to:Nat} (hn:S.now <= now) (hto:to<4294967296) (hp:Zbf n=true) (hl:S.l.length<16) (hc:S.count<1000000) (hk:S.byK ((to:Int),n,ownP S)=none):
    FnW Tryz.prog Zor ⟨[.pointer (some ⟨sb,0,none⟩),.int .i64 now,.int .u32 to,.int .i64 n]⟩ H fun v H'=>∃u,v= .tuple ⟨[.int .i64 ((S.count+1:Nat):Int),u,.int .i64 0]⟩∧
      StDid H H' sb p ((S.at_ now).add ((to:Int),n,ownP S) (dial (ownP S) n S.first).2) u to ((dial (ownP S) n S.first).1.map (outV S.me to)):=by
  refine Zcfa sb now to n ?_;unfold Zbll;refine (Zbgh h hn).mono ?_;rintro _ _ ⟨rfl,e⟩;rw [e];clear e;have hw:IntKind.wrap .i64 (49152+(Int.tmod (IntKind.wrap .i64 ((S.count:Int)+1)) 16384))=ownP S:=by
    rw [Zi (n:=(S.count:Int)+1) (by omega) (by omega),Int.tmod_eq_emod_of_nonneg (by omega),Zi (by omega) (by omega)]
    unfold ownP;omega
  refine ⟨_,rfl,ifF rfl ⟨_,cellL h.blk 5 rfl,by decide,newB fun kb H1 hkb b1 k01=>stL b1 (by simp) rfl fun H2 b2 k12=>stL b2 (by simp) rfl fun H3 b3 k23=>?_⟩⟩
  rw [hw];refine stL b3 (by simp) rfl fun H4 b4 k34=>Zbbg.mono ?_
  rintro _ _ ⟨rfl,e⟩;rw [e,hp];clear e;have k04:Keep Nil H H4:=((k01.then k12 fun y hy=> .inr (hy▸hkb)).then k23 fun y hy=> .inr (hy▸hkb)).then k34 fun y hy=> .inr (hy▸hkb);have h4:=h.keep k04 fun _ _ h=>h;refine ⟨_,rfl,ifF rfl ⟨_,cellL h4.blk 4 rfl,h4.lenI ⟨_,rfl,ifF (decide_eq_false (by omega)) ⟨_,cellL h4.blk 3 rfl,_,cellL b4 0 rfl,_,cellL b4 1 rfl,_,cellL b4 2 rfl,h4.lookK ((to:Int),n,ownP S) (fun _=>⟨_,rfl,ifF rfl (h4.atN hn fun H5 h5 k45=>?_)⟩) fun x _ _ hsome=>by rw [hk] at hsome;cases hsome⟩⟩⟩⟩
  have kbsb:kb≠sb:=fun e=>h.blk.some (e▸hkb);have b5:=k45.blk b4 kbsb;obtain ⟨kp1,kp0⟩:=Zcq b5.some;have kS5:Keep (p.G sb) H H5:=(k04.mono fun _ h=>h.elim).trans (k45.mono fun y e=> .inl (.inl e));refine ⟨[kb],kp1,List.mem_singleton.2 rfl,_,cellL b5 2 rfl,(Zbex h5 hc).mono ?_⟩;rintro _ _ ⟨rfl,e⟩;rw [e];clear e;have hpo:Zbf (ownP S)=true:=by
    unfold Zbf ownP;rw [decide_eq_true (by omega),decide_eq_true (by omega)];rfl
  have hi16: ∀{z:Int},Zbf z=true->i16 z=true:=fun {z} hz=>by unfold Zbf at hz;simp only [Bool.and_eq_true,decide_eq_true_eq] at hz;exact Zge (by omega) hz.2
  refine ⟨_,rfl,kp0,(Zbuq (Int.le_trans h.ok.now hn) (Zbb _ _) hpo hp).mono ?_⟩;rintro _ H6 ⟨cb,u,rfl,hleft⟩;obtain ⟨ac1,ac2⟩:=Zbel S.first (hi16 hpo) (hi16 hp);have hsegs:=Zbas hleft ac1;obtain ⟨q,now',due,ga,gc,xs,hv,hm,hnn,hr,hdu,kk,hsub,ho⟩:=hleft.ex;have hm:xs.map (·.1)=(dial (ownP S) n S.first).1:=hm;have k56:Keep Nil H5 H6:=kk;have h6:=h5.keep k56 fun _ _ h=>h;obtain ⟨ua,un,uc,rfl⟩: ∃a n c,u= .slice a n c:=⟨_,_,_,hv⟩;have b6:=k56.blk b5 id;have hFn: ∀y,q.F cb y->H5 y=none:=fun y hy=>(hsub y hy).elim (fun z=>z.elim) id;refine ⟨_,_,_,_,_,rfl,fun y hy=>by
    rw [List.mem_singleton.1 hy];exact ⟨⟨_,b5⟩,k56.same _ id b5.some⟩,ifF rfl ⟨_,cellL b6 0 rfl,_,cellL b6 1 rfl,_,cellL b6 2 rfl,(Zbih h6 (k:=((to:Int),n,ownP S)) (c:=(dial (ownP S) n S.first).2) (cb:=cb) (F:=q.F cb) hk hl hc ⟨q,now',due,hr,hnn,hdu,rfl⟩ (fun y hy hG=>h5.live hG (hFn y hy)) ac2).mono ?_⟩⟩
  rintro _ H7 ⟨ob,p7,rfl,h7,hcell,k67,hG7⟩;have hsegs7:SegsAt H7 (.slice ua un uc) (dial (ownP S) n S.first).1:=by
    obtain ⟨e1,e2,e3⟩:ua=ga∧un=xs.length∧uc=gc:=by cases hv;exact ⟨rfl,rfl,rfl⟩
    refine ⟨ga,gc,xs,by rw [e1,e2,e3],hm,?_,fun z hz=>?_⟩
    exact (ho.own.keep k67 (fun y hy hTy=>h5.top_live hTy (ho.own.free hy))).reads;have hd:=ho.all z hz;exact ⟨hd.seq,hd.ack,hd.rd.keep k67 fun ad had hTy=>h5.top_live hTy (hd.new ad had).1,(ac1 z.1 (by rw [← hm];exact List.mem_map.2 ⟨z,hz,rfl⟩)).data⟩
  obtain ⟨oa,on,oc,eo,hout⟩:=Zzw h7 hto hsegs7 (by show 1 <= 5000;omega)
  have kG:Keep (p.G sb) H H7:=(kS5.trans (k56.mono fun _ h=>h.elim)).trans (k67.mono fun y hy=> .inl hy);have fin: ∀v H8,OutRow H7 H8 v to ((dial (ownP S) n S.first).1.map (outV S.me to))->Keep Nil H7 H8->StDid H H8 sb p ((S.at_ now).add ((to:Int),n,ownP S) (dial (ownP S) n S.first).2) v to ((dial (ownP S) n S.first).1.map (outV S.me to)):=fun v H8 hor k78=>
    StDid.mk' (Hm:=H7) (h7.keep k78 fun _ _ h=>h) (kG.trans (k78.mono fun _ h=>h.elim)) (fun y hy=>by
      rcases hG7 y hy with e | e | e;exact .inl e;exact .inr (kS5.free (hFn y e))
      . exact .inr (kS5.free (k56.free e))) hor kG fun y hy=>h7.live hy
  refine ⟨_,rfl,NilP.intro _ rfl ⟨⟨_,hcell,hout.mono ?_⟩,hout.mono ?_⟩⟩;rintro v H8 ⟨hor,k78⟩;obtain ⟨va,vn,vc,rfl⟩:=hor.slice;exact ⟨_,_,_,rfl,fun H9 hsh=>⟨_,rfl,(fin _ _ hor k78).shut hsh⟩⟩
  . rintro v H8 ⟨hor,k78⟩;obtain ⟨va,vn,vc,rfl⟩:=hor.slice;have hcell8:H8.cell ⟨ob,3,none⟩=some (.int .i64 ((S.count+1:Nat):Int)):=by
      have hl7:H7 ob≠none:=fun e=>by have:=hcell;simp only [Heap.cell,e] at this;cases this
      have:=k78.same ob id hl7;simp only [Heap.cell] at hcell ⊢;rw [this];exact hcell
    exact ⟨_,_,_,rfl,_,hcell8,fun H9 hsh=>⟨_,rfl,(fin _ _ hor k78).shut hsh⟩⟩
end
end Go.Proofs.YtaljkjokbdpdoaaGreat
end
section
set_option maxRecDepth 100000
namespace Go.Proofs.YtaljkjokbdpdoaaGreat
open Go.Sh Go.Pc Go.Conn
def wayL:List Rw->List Value
  | []=>[]
  | x::xs=> .slice x.2.1 x.1.length x.2.2::wayL xs
theorem Zbji: ∀xs ys,wayL (xs++ys)=wayL xs++wayL ys
  | [],_=>rfl
  | x::xs,ys=>by simp only [List.cons_append,wayL,Zbji xs ys]
theorem Zbjj: ∀(xs:List Rw) (i:Nat) (x:Rw),xs[i]? =some x->(wayL xs)[i]? =some (.slice x.2.1 x.1.length x.2.2)
  | [],_,_,h=>by simp at h
  | y::ys,0,x,h=>by simp at h;subst h;rfl
  | y::ys,i+1,x,h=>by show (wayL ys)[i]? =_;exact Zbjj ys i x (by simpa using h)
theorem Zzu (to:Nat): ∀(xs:List Rw) (i:Nat) (x:Rw),xs[i]? =some x->(outL to xs)[i*2]? =some (.int .u32 to)∧(outL to xs)[i*2+1]? =some (.slice x.2.1 x.1.length x.2.2)
  | [],_,_,h=>by simp at h
  | y::ys,0,x,h=>by simp at h;subst h;exact ⟨rfl,rfl⟩
  | y::ys,i+1,x,h=>by
    have:=Zzu to ys i x (by simpa using h)
    have e1:(i+1)*2=i*2+1+1:=by omega
    rw [e1];exact this
structure RwX (H:Heap) (D:Nat->Prop) (x:Rw):Prop where
  own:RwAt emp H x
  at_: ∀y,x.2.1=some ⟨y,0,none⟩->D y
  ok:AllB x.1
  len:x.1.length <= 60000
structure WayAt (H:Heap) (G D:Nat->Prop) (v:Value) (bs:List (List Int)):Prop where
  ex: ∃a c xs,v= .slice a xs.length c∧xs.map (·.1)=bs∧Sh.Own emp H a xs.length c 1 Zd (wayL xs)∧(∀y,a=some ⟨y,0,none⟩->G y)∧∀x∈xs,RwX H D x
section
variable {H H':Heap} {G D D' Z:Nat->Prop} {v:Value} {bs:List (List Int)}
theorem RwX.keep {x:Rw} (h:RwX H D x) (k:Keep Z H H') (hz: ∀y,D y->¬Z y) (hd: ∀y,D y->D' y):RwX H' D' x:=
  ⟨Sh.Own.keep h.own k fun y hy=>hz y (h.at_ y hy),fun y hy=>hd y (h.at_ y hy),h.ok,h.len⟩
theorem WayAt.keep (h:WayAt H G D v bs) (k:Keep Z H H') (hg: ∀y,G y->¬Z y) (hz: ∀y,D y->¬Z y) (hd: ∀y,D y->D' y):WayAt H' G D' v bs:=by obtain ⟨a,c,xs,h1,h2,h3,h4,h5⟩:=h.ex;exact ⟨a,c,xs,h1,h2,h3.keep k fun y hy=>hg y (h4 y hy),h4,fun x hx=>(h5 x hx).keep k hz hd⟩
theorem WayAt.shut {H0:Heap} (h:WayAt H G D v bs) (hs:Shut H0 H H'):WayAt H' G D v bs:=by obtain ⟨a,c,xs,h1,h2,h3,h4,h5⟩:=h.ex;exact ⟨a,c,xs,h1,h2,Zbn h3 hs,h4,fun x hx=>⟨Zbn (h5 x hx).own hs,(h5 x hx).at_,(h5 x hx).ok,(h5 x hx).len⟩⟩
end
def lkL (sb:Nat->Nat) (wv:Nat->Value):List Value:=[.pointer (some ⟨sb 0,0,none⟩),.pointer (some ⟨sb 1,0,none⟩),wv 0,wv 1]
structure LRep (H0 H:Heap) (lb:Nat) (A:Nat->Nat->Prop) (pp:Nat->StP) (sb:Nat->Nat) (W:LW):Prop where
  reg:Reg H0 H A
  keep:Keep Nil H0 H
  own:A 2 lb
  st: ∀k,k<2->StRep H (sb k) (pp k) (W.s k)
  eqv: ∀k,k<2->∀y,(pp k).G (sb k) y↔A k y
  me: ∀k,k<2->(W.s k).me=adr k
  u8: ∀y,A 5 y->∃c,Blk H y Zh c
  ex: ∃wv,Blk H lb Zbdc ⟨lkL sb wv⟩∧∀k,k<2->WayAt H (A (3+k)) (A 5) (wv k) (W.y k)
structure StepL (H:Heap) (A:Nat->Nat->Prop) (H':Heap) (A':Nat->Nat->Prop):Prop where
  grow: ∀i,i≠5->∀y,A' i y->A i y∨H y=none
  kp:Keep (fun y=>∃j,j≠5∧A j y) H H'
  five: ∀y,A 5 y->A' 5 y
theorem StepL.refl (H:Heap) (A:Nat->Nat->Prop):StepL H A H A:=⟨fun _ _ _ h=> .inl h,Keep.refl _ _,fun _ h=>h⟩
theorem StepL.trans {H H' H'':Heap} {A A' A'':Nat->Nat->Prop} (h:StepL H A H' A') (k:StepL H' A' H'' A''):StepL H A H'' A'':=
  ⟨fun i hi y hy=>(k.grow i hi y hy).elim (fun e=>h.grow i hi y e) fun e=> .inr (h.kp.free e),h.kp.then k.kp fun y ⟨j,hj,hy⟩=>(h.grow j hj y hy).elim (fun e=> .inl ⟨j,hj,e⟩) .inr,fun y hy=>k.five y (h.five y hy)⟩
theorem StepL.nil {H H':Heap} {A:Nat->Nat->Prop} (k:Keep Nil H H'):StepL H A H' A:=⟨fun _ _ _ h=> .inl h,k.mono fun _ h=>h.elim,fun _ h=>h⟩
def Free (H:Heap) (A:Nat->Nat->Prop) (z:Nat):Prop:=H z≠none∧∀i,i≠5->¬A i z
theorem Free.step {H H':Heap} {A A':Nat->Nat->Prop} {z:Nat} (h:Free H A z) (s:StepL H A H' A'):Free H' A' z:=
  ⟨s.kp.live z h.1,fun i hi hy=>(s.grow i hi z hy).elim (h.2 i hi) h.1⟩
theorem Free.nz {H H':Heap} {A A':Nat->Nat->Prop} {z:Nat} (h:Free H A z) (s:StepL H A H' A'): ¬(fun y=>∃j,j≠5∧A j y) z:=fun ⟨j,hj,hy⟩=>h.2 j hj hy
structure OutX (H0 H:Heap) (A:Nat->Nat->Prop) (u:Value) (to:Nat) (bs:List (List Int)):Prop where
  ex: ∃a c xs,u= .slice a xs.length c∧xs.map (·.1)=bs∧Sh.Own emp H a xs.length c 2 Zen (outL to xs)∧(∀y,a=some ⟨y,0,none⟩->Free H A y)∧∀x∈xs,RwX H (fun y=>Free H A y∧H0 y=none) x
section
variable {H0 H H':Heap} {lb:Nat} {A A':Nat->Nat->Prop} {pp:Nat->StP} {sb:Nat->Nat} {W:LW} {k:Nat}
theorem OutX.slice {u:Value} {to:Nat} {bs:List (List Int)} (h:OutX H0 H A u to bs): ∃a n c,u= .slice a n c:=by obtain ⟨a,c,xs,h1,_⟩:=h.ex;exact ⟨_,_,_,h1⟩
theorem OutX.step {u:Value} {to:Nat} {bs:List (List Int)} (h:OutX H0 H A u to bs) (s:StepL H A H' A'):OutX H0 H' A' u to bs:=by obtain ⟨a,c,xs,h1,h2,h3,h4,h5⟩:=h.ex;exact ⟨a,c,xs,h1,h2,h3.keep s.kp fun y hy=>(h4 y hy).nz s,fun y hy=>(h4 y hy).step s,fun x hx=>(h5 x hx).keep s.kp (fun y hy=>hy.1.nz s) fun y hy=>⟨hy.1.step s,hy.2⟩⟩
theorem LRep.shut {H1:Heap} (h:LRep H0 H lb A pp sb W) (k1:Keep Nil H0 H1) (hs:Shut H1 H H'):LRep H0 H' lb A pp sb W:=by
  obtain ⟨wv,hb,hw⟩:=h.ex;refine ⟨⟨fun i y hy=>?_,h.reg.new,h.reg.apart⟩,Zk (H0:=H0) h.keep (fun b=>(hs b).imp id fun ⟨a,r⟩=>⟨k1.free a,r⟩),h.own,fun k hk=>(h.st k hk).shut hs,h.eqv,h.me,fun y hy=>by obtain ⟨c,hc⟩:=h.u8 y hy;exact ⟨c,Zcb hc hs⟩,wv,Zcb hb hs,fun k hk=>(hw k hk).shut hs⟩
  have:=h.reg.live i y hy;rcases hs y with e | ⟨_,_,e⟩;rw [e];exact this;rw [e];simp
theorem LRep.nil (h:LRep H0 H lb A pp sb W) (k:Keep Nil H H'):LRep H0 H' lb A pp sb W:=by obtain ⟨wv,hb,hw⟩:=h.ex;exact ⟨h.reg.keep k,h.keep.trans k,h.own,fun i hi=>(h.st i hi).keep k fun _ _ h=>h,h.eqv,h.me,fun y hy=>by obtain ⟨c,hc⟩:=h.u8 y hy;exact ⟨c,k.blk hc id⟩,wv,k.blk hb id,fun i hi=>(hw i hi).keep k (fun _ _ h=>h) (fun _ _ h=>h) fun _ h=>h⟩
theorem Zbga {wv:Nat->Value} (hk:k<2):(lkL sb wv)[0+k*1]? =some (.pointer (some ⟨sb k,0,none⟩)):=by rcases Zeg hk with rfl | rfl<;>rfl
theorem Zzp {wv:Nat->Value} (hk:k<2):(lkL sb wv)[2+k*1]? =some (wv k):=by rcases Zeg hk with rfl | rfl<;>rfl
theorem Zbgb {wv:Nat->Value} {v:Value} (hk:k<2):(lkL sb wv).set (2+k*1) v=lkL sb (upF wv k v):=by rcases Zeg hk with rfl | rfl<;>rfl
theorem LRep.callX (h:LRep H0 H lb A pp sb W) (hk:k<2) {S':Stk} {u:Value} {to:Nat} {bs:List (List Int)} {Hm:Heap} {p':StP} (q1:StRep H' (sb k) p' S') (q2:Keep ((pp k).G (sb k)) H H') (q3: ∀y,p'.G (sb k) y->(pp k).G (sb k) y∨H y=none) (q4:OutRow Hm H' u to bs) (q5:Keep ((pp k).G (sb k)) H Hm) (q6: ∀y,p'.G (sb k) y->Hm y≠none) (hme:S'.me=adr k) (hbs: ∀b∈bs,AllB b∧b.length <= 60000):
    ∃A' pp',LRep H0 H' lb A' pp' sb { W with s:=upF W.s k S' }∧StepL H A H' A'∧OutX H0 H' A' u to bs∧∀z,H z=none->H' z≠none->¬p'.G (sb k) z->Free H' A' z:=by
  obtain ⟨wv,hb,hw⟩:=h.ex;have e0:=h.eqv k hk;have kA:Keep (A k) H H':=q2.mono fun y hy=>(e0 y).1 hy;have hsub: ∀y,p'.G (sb k) y->A k y∨H y=none:=fun y hy=>(q3 y hy).imp (fun e=>(e0 y).1 e) id;have ns: ∀j,j≠k->∀y,A j y->¬A k y:=fun j hj y hy hz=>h.reg.apart j k hj y hy hz;have reg':Reg H0 H' (upA A k (p'.G (sb k))):=h.reg.step h.keep kA hsub fun y hy=>q1.live hy;have hk5:(5:Nat)≠k:=by omega
  have hk2:(2:Nat)≠k:=by omega
  have st':StepL H A H' (upA A k (p'.G (sb k))):=by
    refine ⟨fun i hi y hy=>?_,kA.mono fun y hy=>⟨k,by omega,hy⟩,fun y hy=>by rw [Zbr hk5];exact hy⟩
    by_cases e:i=k;subst e;rw [Zdt] at hy;exact hsub y hy;rw [Zbr e] at hy;exact .inl hy
  have hm:Keep (A k) H Hm:=q5.mono fun y hy=>(e0 y).1 hy;have freeX: ∀z,H z=none->H' z≠none->¬p'.G (sb k) z->Free H' (upA A k (p'.G (sb k))) z:=fun z hn hl hg=>by refine ⟨hl,fun i hi hy=>?_⟩;by_cases e:i=k;subst e;rw [Zdt] at hy;exact hg hy;rw [Zbr e] at hy;exact h.reg.live i z hy hn
  have free: ∀y,Hm y=none->H' y≠none->Free H' (upA A k (p'.G (sb k))) y:=fun y hn hl=>freeX y (q5.free hn) hl fun hy=>q6 y hy hn;refine ⟨upA A k (p'.G (sb k)),upF pp k p',⟨reg',h.keep.then kA fun y hy=> .inr (h.reg.new k y hy),by rw [Zbr hk2];exact h.own,fun i hi=>?_,fun i hi y=>?_,fun i hi=>?_,fun y hy=>by rw [Zbr hk5] at hy;obtain ⟨c,hc⟩:=h.u8 y hy;exact ⟨c,kA.blk hc (ns 5 hk5 y hy)⟩,wv,kA.blk hb (ns 2 hk2 lb h.own),fun i hi=>?_⟩,st',?_,freeX⟩
  show StRep H' (sb i) (upF pp k p' i) (upF W.s k S' i);by_cases e:i=k;subst e;rw [Zce,Zce];exact q1;rw [Zdi e,Zdi e];exact (h.st i hi).keep kA fun y hy=>ns i e y ((h.eqv i hi y).1 hy);show (upF pp k p' i).G (sb i) y↔_;by_cases e:i=k;subst e;rw [Zce,Zdt];rw [Zdi e,Zbr e];exact h.eqv i hi y;show (upF W.s k S' i).me=adr i;by_cases e:i=k;subst e;rw [Zce];exact hme;rw [Zdi e];exact h.me i hi
  . rw [Zbr (by omega),Zbr hk5]
    exact (hw i hi).keep kA (ns _ (by omega)) (ns 5 hk5) fun _ h=>h
  . obtain ⟨a,c,xs,r1,r2,r3,r4⟩:=q4.ex;have ke:Keep (fun _=>True) emp Hm:=⟨fun y hy=>absurd trivial hy,fun y hy=>absurd rfl hy⟩;refine ⟨a,c,xs,r1,r2,r3.mono ke,fun y hy=>?_,fun x hx=>⟨Sh.Own.mono (r4 x hx) ke,fun y hy=>?_,(hbs _ (by rw [← r2];exact List.mem_map.2 ⟨x,hx,rfl⟩)).1,(hbs _ (by rw [← r2];exact List.mem_map.2 ⟨x,hx,rfl⟩)).2⟩⟩
    obtain ⟨cs,hb⟩:=r3.live hy;exact free y (r3.free hy) hb.some;obtain ⟨cs,hb⟩:=Sh.Own.live (r4 x hx) hy;exact ⟨free y (Sh.Own.free (r4 x hx) hy) hb.some,h.keep.free (hm.free (Sh.Own.free (r4 x hx) hy))⟩
theorem LRep.call (h:LRep H0 H lb A pp sb W) (hk:k<2) {S':Stk} {u:Value} {to:Nat} {bs:List (List Int)} (hd:StDid H H' (sb k) (pp k) S' u to bs) (hme:S'.me=adr k) (hbs: ∀b∈bs,AllB b∧b.length <= 60000):
    ∃A' pp',LRep H0 H' lb A' pp' sb { W with s:=upF W.s k S' }∧StepL H A H' A'∧OutX H0 H' A' u to bs:=by
  obtain ⟨Hm,p',q1,q2,q3,q4,q5,q6⟩:=hd.ex;obtain ⟨A',pp',r1,r2,r3,_⟩:=h.callX hk q1 q2 q3 q4 q5 q6 hme hbs;exact ⟨A',pp',r1,r2,r3⟩
theorem Zlf {z:Int} (m:Nat) (hz:10+z=m) (hm:m<100):FnW Tryz.prog Zie ⟨[.int .i64 z]⟩ H fun v H'=>v= .int .u32 (m:Nat)∧H'=H:=by
  refine Zcks z ?_;unfold Zbrg;rw [Zi (by omega) (by omega),hz,w32]
  have:((m:Nat):Int)%4294967296=(m:Int):=by omega
  rw [this];exact fun H2 hs=>⟨rfl,(Zf hs).symm⟩
theorem Zcbe: ∃it,Tryz.prog.info? Zd=some it∧it.size=1∧it.bytes=24:=by
  have h:(Tryz.prog.info? Zd).map (fun i=>(i.size,i.bytes))=some (1,24):=by kernel_rfl
  cases hi:Tryz.prog.info? Zd with
  | none=>rw [hi] at h;cases h
  | some it=>
    rw [hi] at h;simp only [Option.map_some,Option.some.injEq,Prod.mk.injEq] at h;exact ⟨it,rfl,h.1,h.2⟩
theorem LRep.onway (h:LRep H0 H lb A pp sb W) (hk:k<2) {x:Rw} (hx:RwX H (fun y=>Free H A y∧H0 y=none) x) (hn:(W.y k).length <= 100000) {K:Heap->Prop}
    (hK: ∀H' A',LRep H0 H' lb A' pp sb { W with y:=upF W.y k (W.y k++[x.1]) }->StepL H A H' A'->K H'):
    ∃(a:Option Addr) (n c:Nat),H.cell ⟨lb,2+k*1,none⟩=some (.slice a n c)∧
      NewW H (.cells ⟨[.slice x.2.1 x.1.length x.2.2]⟩ Zd) fun q H1=>AppW Tryz.prog #[Zjc,Zjc] Zjc [.slice a n c,.slice (some ⟨q,0,none⟩) 1 1] H1 fun v H2=>
        ∃(a':Option Addr) (n' c':Nat),v= .slice a' n' c'∧Za H2 ⟨lb,2+k*1,none⟩ (.slice a' n' c') K:=by
  obtain ⟨wv,hb,hw⟩:=h.ex;obtain ⟨a,c,xs,w1,w2,w3,w4,w5⟩:=(hw k hk).ex;have hl:xs.length=(W.y k).length:=by rw [← w2,List.length_map]
  refine ⟨a,xs.length,c,by rw [← w1];exact cellL hb _ (Zzp hk),newB fun q H1 hq b1 k1=>?_⟩
  obtain ⟨it,i1,i2,i3⟩:=Zcbe;have ke:Keep (fun _=>True) emp H1:=⟨fun y hy=>absurd trivial hy,fun y hy=>absurd rfl hy⟩;have hr:Reads H1 (some ⟨q,0,none⟩) (1*1) (wayL [x]):=Reads.blk b1 rfl fun j hj=>by rw [Nat.zero_add,List.getElem?_toArray];rfl
  refine Zgj (e:=Zd) (xe:=Zd) (z:=[.slice none 0 0]) (by kernel_rfl) (by kernel_rfl) i1 i2 i3 (by decide) (by kernel_rfl) rfl (w3.keep k1 fun _ _ h=>h) ke (new:=wayL [x]) hr (fun v hv=>by rw [List.mem_singleton.1 hv];rfl) (by omega) fun a' cap' H2 _ q1 q2 q3 q4=>⟨a',_,cap',rfl,?_⟩
  have nlb: ¬a=some ⟨lb,0,none⟩:=fun e=>h.reg.apart 2 (3+k) (by omega) lb h.own (w4 lb e)
  have b2:=q3.blk (k1.blk hb id) nlb;refine stL b2 (by rcases Zeg hk with rfl | rfl<;>simp [lkL]) rfl fun H3 b3 k23=>?_
  rw [Zbgb hk] at b3
  let G':Nat->Prop:=fun y=>a'=some ⟨y,0,none⟩
  let D':Nat->Prop:=fun y=>A 5 y∨x.2.1=some ⟨y,0,none⟩
  let A':Nat->Nat->Prop:=fun i=>if i=5 then D' else if i=3+k then G' else A i
  have e5:A' 5=D':=rfl;have e3:A' (3+k)=G':=by show (if 3+k=5 then _ else _)=_;rw [if_neg (by omega),if_pos rfl]
  have ei: ∀i,i≠5->i≠3+k->A' i=A i:=fun i h1 h2=>by show (if i=5 then _ else _)=_;rw [if_neg h1,if_neg h2]
  have hG: ∀y,G' y->A (3+k) y∨H y=none:=fun y hy=>(q2 y hy).imp (fun e=>w4 y e) fun e=>k1.free e;have k01:Keep (fun y=>y=lb∨a=some ⟨y,0,none⟩) H H3:=((k1.mono fun _ h=>h.elim).trans (q3.mono fun y e=> .inr e)).trans (k23.mono fun y e=> .inl e);have zA: ∀y,(y=lb∨a=some ⟨y,0,none⟩)->∃j,j≠5∧A j y∧(j=2∨j=3+k):=fun y hy=>hy.elim (fun e=>⟨2,by omega,e▸h.own,.inl rfl⟩) fun e=>⟨3+k,by omega,w4 y e,.inr rfl⟩
  have nz: ∀i,i≠2->i≠3+k->∀y,A i y->¬(y=lb∨a=some ⟨y,0,none⟩):=fun i h2 h3 y hy hz=>by obtain ⟨j,_,hj,e⟩:=zA y hz;rcases e with rfl | rfl;exact h.reg.apart i 2 h2 y hy hj;exact h.reg.apart i (3+k) h3 y hy hj
  have nzx: ∀y,x.2.1=some ⟨y,0,none⟩->¬(y=lb∨a=some ⟨y,0,none⟩):=fun y hy hz=>by obtain ⟨j,j5,hj,_⟩:=zA y hz;exact (hx.at_ y hy).1.2 j j5 hj
  have live3: ∀y,G' y->H3 y≠none:=fun y hy=>by obtain ⟨cs,hb⟩:=q1.live hy;exact k23.live y hb.some
  have a'lb: ¬G' lb:=fun e=>by rcases q2 lb e with e | e;exact nlb e;exact (k1.live lb hb.some) e
  have st:StepL H A H3 A':=by
    refine ⟨fun i hi y hy=>?_,k01.mono fun y hy=>by obtain ⟨j,j5,hj,_⟩:=zA y hy;exact ⟨j,j5,hj⟩,fun y hy=>by rw [e5];exact .inl hy⟩
    by_cases e:i=3+k;subst e;rw [e3] at hy;exact hG y hy;rw [ei i hi e] at hy;exact .inl hy
  refine hK H3 A' ⟨⟨fun i y hy=>?_,fun i y hy=>?_,fun i j hij y hi hj=>?_⟩,h.keep.then k01 fun y hy=>by obtain ⟨j,j5,hj,_⟩:=zA y hy;exact .inr (h.reg.new j y hj),?_,fun i hi=>?_,fun i hi y=>?_,h.me,fun y hy=>?_,upF wv k (.slice a' (xs.length+1) cap'),b3,fun i hi=>?_⟩ st
  by_cases e:i=5;subst e;rcases hy with hy | hy;exact k01.live y (h.reg.live 5 y hy);exact k01.live y (hx.at_ y hy).1.1;by_cases e2:i=3+k;subst e2;rw [e3] at hy;exact live3 y hy;rw [ei i e e2] at hy;exact k01.live y (h.reg.live i y hy);by_cases e:i=5;subst e;rcases hy with hy | hy;exact h.reg.new 5 y hy;exact (hx.at_ y hy).2;by_cases e2:i=3+k;subst e2;rw [e3] at hy;exact (hG y hy).elim (h.reg.new _ y) fun e=>h.keep.free e;rw [ei i e e2] at hy;exact h.reg.new i y hy
  . have no5: ∀m,m≠5->A' 5 y->¬A' m y:=fun m hm h5 hy=>by
      have hl:H y≠none∧∀n,n≠5->¬A n y:=by rcases h5 with h5 | h5;exact ⟨h.reg.live 5 y h5,fun n hn hny=>h.reg.apart n 5 hn y hny h5⟩;exact (hx.at_ y h5).1
      exact (st.grow m hm y hy).elim (hl.2 m hm) hl.1
    by_cases i5:i=5;subst i5;exact no5 j (fun e=>hij e.symm) hi hj;by_cases j5:j=5;subst j5;exact no5 i hij hj hi;by_cases i3:i=3+k;have j3:j≠3+k:=fun e=>hij (i3.trans e.symm);rw [ei j j5 j3] at hj;exact (st.grow i i5 y hi).elim (fun e=>h.reg.apart i j hij y e hj) (h.reg.live j y hj);rw [ei i i5 i3] at hi;exact (st.grow j j5 y hj).elim (fun e=>h.reg.apart i j hij y hi e) (h.reg.live i y hi)
  . rw [ei 2 (by omega) (by omega)];exact h.own
  exact (h.st i hi).keep k01 fun y hy=>nz i (by omega) (by omega) y ((h.eqv i hi y).1 hy)
  . rw [ei i (by omega) (by omega)];exact h.eqv i hi y
  . rw [e5] at hy;rcases hy with hy | hy;obtain ⟨c,hc⟩:=h.u8 y hy;exact ⟨c,k01.blk hc (nz 5 (by omega) (by omega) y hy)⟩
    obtain ⟨c,hc⟩:=Sh.Own.live hx.own hy;exact ⟨c,k01.blk hc (nzx y hy)⟩
  . show WayAt H3 (A' (3+i)) (A' 5) (upF wv k (.slice a' (xs.length+1) cap') i) (upF W.y k (W.y k++[x.1]) i);by_cases e:i=k
    . subst e;rw [Zce,Zce,e3,e5];refine ⟨a',cap',xs++[x],by rw [List.length_append];rfl,by rw [List.map_append,w2];rfl,?_,fun y hy=>hy,fun z hz=>?_⟩
      rw [Zbji,List.length_append];exact q1.keep k23 fun y hy e=>a'lb (e▸hy)
      . rcases List.mem_append.1 hz with hz | hz;exact (w5 z hz).keep k01 (nz 5 (by omega) (by omega)) fun y hy=> .inl hy
        rw [List.mem_singleton.1 hz];exact ⟨Sh.Own.keep hx.own k01 nzx,fun y hy=> .inr hy,hx.ok,hx.len⟩
    . rw [Zdi e,Zdi e,ei (3+i) (by omega) (by omega),e5]
      exact (hw i hi).keep k01 (nz _ (by omega) (by omega)) (nz 5 (by omega) (by omega)) fun y hy=> .inl hy
end
end Go.Proofs.YtaljkjokbdpdoaaGreat
end
section
set_option maxRecDepth 100000
namespace Go.Conn
theorem Zzv {g:Sg} (h:Goes g) (x y:Nat):AllB (outV x y g)∧(outV x y g).length <= 60000:=by
  have hf:g.fits=true:=by
    have:=h.can;unfold Sg.can at this;cases e:g.fits with
    | true=>rfl
    | false=>rw [e] at this;cases this
  obtain ⟨_,_,_,_,_,f6,f7⟩:=Zgc hf;unfold outV;rw [if_pos h.can];unfold Zga;refine ⟨Zbcy ⟨f6,f7⟩ h.data _,?_⟩;rw [Zoe];have:=h.len;split<;>omega
theorem Zbiv (S:Stk) (now:Int) (fr:Nat) (b:List Int):(S.take now fr b).S.me=S.me∧(S.take now fr b).S.now=now∧(S.take now fr b).S.count <= S.count+1:=by
  unfold Stk.take;cases Zcd fr S.me b with
  | none=>exact ⟨rfl,rfl,Nat.le_succ _⟩
  | some s=>
    simp only;unfold Stk.meet;cases (S.at_ now).byK ((fr:Int),s.src,s.dst) with
    | some e=>
      simp only;unfold Stk.settle;split;exact ⟨rfl,rfl,Nat.le_succ _⟩
      . exact ⟨rfl,rfl,Nat.le_succ _⟩
    | none=>
      simp only;unfold Stk.stranger;split;split;exact ⟨rfl,rfl,Nat.le_succ _⟩;exact ⟨rfl,rfl,Nat.le_refl _⟩;exact ⟨rfl,rfl,Nat.le_succ _⟩
theorem Zcbw (S:Stk) (now:Int) (fr:Nat) (b:List Int):(S.take now fr b).evs.length <= 3:=by
  have key: ∀(id s0 r0:Nat) (c:Cn),(evs id s0 r0 c).length <= 3:=by
    intro id s0 r0 c;unfold evs;simp only [List.length_append];have h1:(if s0<3∧3 <= c.st then [((1:Int),(id:Int))] else []).length <= 1:=by split<;>simp
    have h2:(if r0<c.ready then [((2:Int),(id:Int))] else []).length <= 1:=by split<;>simp
    have h3:(if c.st=6∨c.st=7∨c.st=9 then (if s0 <= 5 then [((3:Int),(id:Int))] else []) else if c.st=0 then [(4,(id:Int))] else []).length <= 1:=by split;split<;>simp;split<;>simp
    omega
  unfold Stk.take;cases Zcd fr S.me b with
  | none=>exact Nat.zero_le _
  | some s=>
    simp only;unfold Stk.meet;cases (S.at_ now).byK ((fr:Int),s.src,s.dst) with
    | some e=>exact key _ _ _ _
    | none=>exact Nat.zero_le _
end Go.Conn
namespace Go.Proofs.YtaljkjokbdpdoaaGreat
open Go.Sh Go.Pc Go.Conn
section
variable {H0 H H':Heap} {lb:Nat} {A A':Nat->Nat->Prop} {pp:Nat->StP} {sb:Nat->Nat} {W:LW} {k:Nat}
theorem StepL.shut {H1 H2:Heap} (h:StepL H A H1 A') (hs:Shut H H1 H2):StepL H A H2 A':=⟨h.grow,Zbl h.kp hs,h.five⟩
theorem other (hk:k<2):IntKind.wrap .i64 (1 - (k:Int))=((1 - k:Nat):Int)∧1 - k<2:=by
  rcases Zeg hk with rfl | rfl;exact ⟨rfl,by decide⟩
  exact ⟨rfl,by decide⟩
theorem Zbhj (h:LRep H0 H lb A pp sb W) (hk:k<2) {u:Value} {bs:List (List Int)} (ho:OutX H0 H A u (adr (1 - k)) bs) (hn:(W.y (1 - k)).length+bs.length <= 100000):
    FnW Tryz.prog Zlz ⟨[.pointer (some ⟨lb,0,none⟩),.int .i64 k,u]⟩ H fun v H'=>v= .tuple ⟨[]⟩∧∃A',LRep H0 H' lb A' pp sb { W with y:=upF W.y (1 - k) (W.y (1 - k)++bs) }∧StepL H A H' A':=by
  obtain ⟨a,c,xs,rfl,hm,o1,hfree,hrows⟩:=ho.ex;obtain ⟨hw,hk1⟩:=other hk;have hl:xs.length=bs.length:=by rw [← hm,List.length_map]
  refine Zcip lb k a _ c ?_;unfold Zbor;refine Zbo (fun m s Hi=>∃(i:Nat) (Ai:Nat->Nat->Prop),s=((i:Int),())∧m+i=xs.length∧LRep H0 Hi lb Ai pp sb { W with y:=upF W.y (1 - k) (W.y (1 - k)++bs.take i) }∧StepL H A Hi Ai) xs.length ⟨0,A,rfl,rfl,by rw [List.take_zero,List.append_nil,Zccx];exact h,StepL.refl H A⟩ ?_
  rintro m s Hi ⟨i,Ai,rfl,hmi,hL,hS⟩ g;unfold Zboq;refine IfB.intro (fun e=>?_) fun e H2 hs=>⟨rfl,Ai,?_,hS.shut hs⟩
  rotate_left
  . have e:=of_decide_eq_false e;simp only at e;have:bs.take i=bs:=List.take_of_length_le (by omega)
    rw [this] at hL;exact hL.shut h.keep hs
  have e:=of_decide_eq_true e;simp only at e;have hil:i<xs.length:=by omega
  have hg:xs[i]? =some (xs[i]):=List.getElem?_eq_getElem hil;have hX:=hrows _ (List.getElem_mem hil);have hbi:bs[i]? =some (xs[i].1):=by rw [← hm,List.getElem?_map,hg];rfl
  generalize xs[i]=x at hg hX hbi;obtain ⟨g1,g2⟩:=Zzu (adr (1 - k)) xs i x hg;have oi:=o1.keep hS.kp fun y hy=>(hfree y hy).nz hS;have hXi:RwX Hi (fun y=>Free Hi Ai y∧H0 y=none) x:=hX.keep hS.kp (fun y hy=>hy.1.nz hS) fun y hy=>⟨hy.1.step hS,hy.2⟩;have hnext: ∀H' A',LRep H0 H' lb A' pp sb { W with y:=upF W.y (1 - k) (W.y (1 - k)++bs.take (i+1)) }->StepL Hi Ai H' A'->Znj lb k a xs.length c i (fun x' H'=>∃k'<m,∃(i:Nat) (Ai:Nat->Nat->Prop),x'=((i:Int),())∧k'+i=xs.length∧LRep H0 H' lb Ai pp sb { W with y:=upF W.y (1 - k) (W.y (1 - k)++bs.take i) }∧StepL H A H' Ai) H' fun v H1=>∀H2,Shut H H1 H2->v= .tuple ⟨[]⟩∧∃A',LRep H0 H2 lb A' pp sb { W with y:=upF W.y (1 - k) (W.y (1 - k)++bs) }∧StepL H A H2 A':=by
    intro H' A' h1 h2;unfold Znj;refine ⟨m - 1,by omega,i+1,A',?_,by omega,h1,hS.trans h2⟩
    rw [Zi (by omega) (by omega)];rfl
  rcases o1.2.2 with ⟨_,e0,_⟩ | ⟨ab,rest,e0,_,hab,_⟩;omega;subst e0;have hri:Reads Hi (some ⟨ab,0,none⟩) (xs.length*2) (outL (adr (1 - k)) xs):=oi.reads;have hlive:Hi ab≠none:=((hfree ab rfl).step hS).1;obtain ⟨kp1,kp0⟩:=Zcq hlive;refine ⟨[ab],kp1,NilP.intro _ rfl (InB.intro i rfl hil ?_)⟩;rw [Zw];have c0:=hri.cell (j:=i*2) (by omega)
  have c1:=hri.cell (j:=i*2+1) (by omega)
  rw [g1] at c0;rw [g2] at c1;refine ⟨List.mem_singleton.2 rfl,_,c0,?_⟩;have hz:(10:Int)+((1 - k:Nat):Int)=((adr (1 - k):Nat):Int):=by unfold adr;omega
  rw [hw];refine (Zlf (adr (1 - k)) hz (by unfold adr;omega)).mono ?_
  rintro _ _ ⟨rfl,e2⟩;rw [e2];clear e2;refine ⟨_,rfl,kp0,ifT (by simp) (InB.intro (1 - k) rfl hk1 ?_)⟩
  obtain ⟨wa,wn,wc,hcell,hw2⟩:=hL.onway hk1 (x:=x) hXi (by
    show (upF W.y (1 - k) (W.y (1 - k)++bs.take i) (1 - k)).length <= 100000;rw [Zce,List.length_append,List.length_take];omega) (K:=fun H'=>Znj lb k (some ⟨ab,0,none⟩) xs.length c i _ H' _) fun H' A' h1 h2=>hnext H' A' (by
    have ey:upF (upF W.y (1 - k) (W.y (1 - k)++bs.take i)) (1 - k) (upF W.y (1 - k) (W.y (1 - k)++bs.take i) (1 - k)++[x.1])=upF W.y (1 - k) (W.y (1 - k)++bs.take (i+1)):=by funext j;by_cases e:j=1 - k;subst e;rw [Zce,Zce,Zce,List.append_assoc];congr 1;rw [List.take_succ,hbi];rfl;rw [Zdi e,Zdi e,Zdi e]
    have h1:LRep H0 H' lb A' pp sb { W with y:=upF (upF W.y (1 - k) (W.y (1 - k)++bs.take i)) (1 - k) (upF W.y (1 - k) (W.y (1 - k)++bs.take i) (1 - k)++[x.1]) }:=h1
    rw [ey] at h1;exact h1) h2
  refine ⟨wa,wn,wc,hcell,NilP.intro _ rfl (InB.intro i rfl hil ?_)⟩;rw [Zw];refine ⟨_,_,_,c1,?_⟩;refine fun q hq=>?_;have:=hw2 q hq;refine SemW.mono _ _ _ _ (fun v H2 hv=>?_) this;obtain ⟨a',n',c',rfl,hst⟩:=hv;exact ⟨a',n',c',rfl,InB.intro (1 - k) rfl hk1 hst⟩
theorem LRep.clear (h:LRep H0 H lb A pp sb W) (hk:k<2) {K:Heap->Prop}
    (hK: ∀H' A' a c xs,LRep H0 H' lb A' pp sb { W with y:=upF W.y k [] }->StepL H A H' A'->xs.map (·.1)=W.y k->Sh.Own emp H' a xs.length c 1 Zd (wayL xs)->(∀y,a=some ⟨y,0,none⟩->Free H' A' y)->(∀x∈xs,RwX H' (A' 5) x)->H.cell ⟨lb,2+k*1,none⟩=some (.slice a xs.length c)->(∀y,A' 5 y->A 5 y)->(∀y,a=some ⟨y,0,none⟩->H y≠none)->K H'):Za H ⟨lb,2+k*1,none⟩ (.slice none 0 0) K:=by
  obtain ⟨wv,hb,hw⟩:=h.ex;obtain ⟨a,c,xs,w1,w2,w3,w4,w5⟩:=(hw k hk).ex;refine stL hb (by rcases Zeg hk with rfl | rfl<;>simp [lkL]) rfl fun H1 b1 k1=>?_
  rw [Zbgb hk] at b1;have kk:Keep (A 2) H H1:=k1.mono fun y hy=>hy▸h.own;have n3:(3+k)≠2:=by omega
  have reg':Reg H0 H1 (upA A (3+k) Nil):=h.reg.step h.keep kk (fun y hy=>hy.elim) fun y hy=>hy.elim;have e5:upA A (3+k) Nil 5=A 5:=Zbr (by omega)
  have e2:upA A (3+k) Nil 2=A 2:=Zbr (by omega)
  have ns: ∀j,j≠2->∀y,A j y->¬A 2 y:=fun j hj y hy hz=>h.reg.apart j 2 hj y hy hz;have st:StepL H A H1 (upA A (3+k) Nil):=by
    refine ⟨fun i hi y hy=>?_,kk.mono fun y hy=>⟨2,by omega,hy⟩,fun y hy=>by rw [e5];exact hy⟩
    by_cases e:i=3+k;subst e;rw [Zdt] at hy;exact hy.elim;rw [Zbr e] at hy;exact .inl hy
  refine hK H1 (upA A (3+k) Nil) a c xs ⟨reg',h.keep.then kk fun y hy=> .inr (h.reg.new 2 y hy),by rw [e2];exact h.own,fun i hi=>(h.st i hi).keep kk fun y hy=>ns i (by omega) y ((h.eqv i hi y).1 hy),fun i hi y=>?_,h.me,fun y hy=>by rw [e5] at hy;obtain ⟨c,hc⟩:=h.u8 y hy;exact ⟨c,kk.blk hc (ns 5 (by omega) y hy)⟩,_,b1,fun i hi=>?_⟩ st w2 (w3.keep kk fun y hy=>ns _ n3 y (w4 y hy)) (fun y hy=>⟨?_,fun i hi hy2=>?_⟩) (fun x hx=>(w5 x hx).keep kk (ns 5 (by omega)) fun y hy=>by rw [e5];exact hy) (by rw [← w1];exact cellL hb _ (Zzp hk)) (fun y hy=>by rw [e5] at hy;exact hy) (fun y hy=>h.reg.live (3+k) y (w4 y hy))
  . rw [Zbr (by omega)];exact h.eqv i hi y
  . show WayAt H1 (upA A (3+k) Nil (3+i)) (upA A (3+k) Nil 5) (upF wv k (.slice none 0 0) i) (upF W.y k [] i);by_cases e:i=k;subst e;rw [Zce,Zce];exact ⟨none,0,[],rfl,rfl,Sh.Own.nil,(fun y h=>by cases h),(fun x h=>by cases h)⟩
    . rw [Zdi e,Zdi e,Zbr (by omega),e5]
      exact (hw i hi).keep kk (ns _ (by omega)) (ns 5 (by omega)) fun y hy=>hy
  exact kk.live y (h.reg.live (3+k) y (w4 y hy));by_cases e:i=3+k;subst e;rw [Zdt] at hy2;exact hy2;rw [Zbr e] at hy2;exact h.reg.apart i (3+k) e y hy2 (w4 y hy)
theorem Zbxv {a xb:Option Addr} {n c m xc:Nat} {xs new:List (Int×Int)} {K:Value->Heap->Prop} {Z:Nat->Prop} (ho:Sh.Own emp H a n c 2 Zbi (evL xs)) (k0:Keep Z emp H) (hnew:Reads H xb (m*2) (evL new)) (hfit:n+m <= 1000000)
    (h: ∀a' cap' H',Sh.Own emp H' a' (n+m) cap' 2 Zbi (evL (xs++new))->(∀b,a'=some ⟨b,0,none⟩->a=some ⟨b,0,none⟩∨H b=none)->Keep (fun b=>a=some ⟨b,0,none⟩) H H'->K (.slice a' (n+m) cap') H'):
    AppW Tryz.prog #[Zcc,Zcc] Zcc [.slice a n c,.slice xb m xc] H K:=by
  obtain ⟨it,h1,h2,h3⟩:=Zbep;refine Zgj (e:=Zbi) (xe:=Zbi) (z:=[.int .i64 0,.int .i64 0]) (by kernel_rfl) (by kernel_rfl) h1 h2 h3 (by decide) (by kernel_rfl) rfl ho k0 (new:=evL new) hnew (Zvz new) (by omega) fun a' cap' H' _ q1 q2 q3 q4=>?_
  rw [← Zvy] at q1;exact h a' cap' H' q1 q2 q3
theorem LRep.after {Z:Nat->Prop} (h:LRep H0 H lb A pp sb W) (k:Keep Z H H') (hz: ∀y,Z y->Free H A y∧¬A 5 y∧H0 y=none):LRep H0 H' lb A pp sb W:=by
  obtain ⟨wv,hb,hw⟩:=h.ex;have nz: ∀i y,A i y->¬Z y:=fun i y hy hZ=>by obtain ⟨h1,h2,_⟩:=hz y hZ;by_cases e:i=5;subst e;exact h2 hy;exact h1.2 i e hy
  exact ⟨h.reg.keep k,h.keep.then k fun y hy=> .inr (hz y hy).2.2,h.own,fun i hi=>(h.st i hi).keep k fun y hy=>nz i y ((h.eqv i hi y).1 hy),h.eqv,h.me,fun y hy=>by obtain ⟨c,hc⟩:=h.u8 y hy;exact ⟨c,k.blk hc (nz 5 y hy)⟩,wv,k.blk hb (nz 2 lb h.own),fun i hi=>(hw i hi).keep k (nz _) (nz 5) fun _ h=>h⟩
structure StepM (H H2:Heap) (A2:Nat->Nat->Prop) (Hi:Heap) (Ai:Nat->Nat->Prop):Prop where
  grow: ∀i,i≠5->∀y,Ai i y->A2 i y∨H2 y=none
  kp:Keep (fun y=>(∃j,j≠5∧A2 j y)∨H y=none) H2 Hi
  five: ∀y,A2 5 y->Ai 5 y
theorem StepM.all {H2 Hi:Heap} {A2 Ai:Nat->Nat->Prop} (h:StepM H H2 A2 Hi Ai) (s:StepL H A H2 A2):StepL H A Hi Ai:=
  ⟨fun i hi y hy=>(h.grow i hi y hy).elim (s.grow i hi y) fun e=> .inr (s.kp.free e),s.kp.then h.kp fun y hy=>hy.elim (fun ⟨j,hj,e⟩=>(s.grow j hj y e).imp (fun e=>⟨j,hj,e⟩) id) .inr,fun y hy=>h.five y (s.five y hy)⟩
theorem Zvs (h:LRep H0 H lb A pp sb W) (hk:k<2) {now:Int} (hn:(W.s k).now <= now) (hc:(W.s k).count+(W.y k).length<1000000) (hy:(W.y (1 - k)).length+4098*(W.y k).length <= 100000):
    FnW Tryz.prog Zgz ⟨[.pointer (some ⟨lb,0,none⟩),.int .i64 now,.int .i64 k]⟩ H fun v H'=>∃A' pp' a c,v= .slice a (W.come now k).2.length c∧LRep H0 H' lb A' pp' sb (W.come now k).1∧StepL H A H' A'∧Sh.Own emp H' a (W.come now k).2.length c 2 Zbi (evL (W.come now k).2)∧∀y,a=some ⟨y,0,none⟩->Free H' A' y:=by
  obtain ⟨hw,hk1⟩:=other hk;refine Zcjd lb now k ?_;unfold Zbpk;refine newB fun eb H1 heb be k01=>InB.intro k rfl hk ?_;have h1:=h.nil k01;obtain ⟨wv,hb,hwv⟩:=h1.ex;obtain ⟨a0,c0,xs0,w1,w2,w3,h4,_⟩:=(hwv k hk).ex;have hcell:H1.cell ⟨lb,2+k*1,none⟩=some (.slice a0 xs0.length c0):=by rw [← w1];exact cellL hb _ (Zzp hk)
  refine ⟨_,_,_,hcell,InB.intro k rfl hk (h1.clear hk fun H2 A2 a c xs h2 st2 hm o2 free2 rows2 hcell2 five2 old1=>?_)⟩;rw [hcell] at hcell2;obtain ⟨rfl,hxl,rfl⟩:a0=a∧xs0.length=xs.length∧c0=c:=by
    have e:=Option.some.inj hcell2;injection e with e1 e2 e3
    exact ⟨e1,e2,e3⟩
  rw [hxl];clear hcell hcell2 w1 w2 w3 hwv hb hxl;have hl:xs.length=(W.y k).length:=by rw [← hm,List.length_map]
  have st02:StepL H A H2 A2:=(StepL.nil k01).trans st2;have old: ∀y,a0=some ⟨y,0,none⟩->H y≠none:=fun y hy=>h.reg.live (3+k) y (h4 y hy);have hebA:Free H1 A eb:=⟨be.some,fun i _ hy=>h.reg.live i eb hy heb⟩;obtain ⟨F,hF⟩: ∃F,F=W.come now k:=⟨_,rfl⟩;rw [← hF];refine Zbo (fun m s Hi=>∃(i n:Nat) (a':Option Addr) (c':Nat) (es:List (Int×Int)) (Ai:Nat->Nat->Prop) (ppi:Nat->StP) (Wi:LW),s=((a',n,c'),((i:Int),()))∧m+i=xs.length∧n=es.length∧LRep H0 Hi lb Ai ppi sb Wi∧StepM H H2 A2 Hi Ai∧Sh.Own emp Hi a' n c' 2 Zbi (evL es)∧(∀y,a'=some ⟨y,0,none⟩->Free Hi Ai y∧H y=none)∧
      (Wi.s k).now <= now∧(Wi.s k).count+(xs.length - i)<1000000∧(Wi.y (1 - k)).length+4098*(xs.length - i) <= 100000∧n <= 10*i∧(LW.more now k ((W.y k).drop i) Wi).1=F.1∧es++(LW.more now k ((W.y k).drop i) Wi).2=F.2) xs.length
    ⟨0,0,some ⟨eb,0,none⟩,0,[],A2,pp,_,rfl,rfl,rfl,h2,⟨fun _ _ _ h=> .inl h,Keep.refl _ _,fun _ h=>h⟩,?_,?_,hn,by rw [hl];exact hc,?_,by omega,by rw [hF];rfl,by rw [hF];rfl⟩ ?_
  have h2e:=st2.kp.blk be (hebA.nz st2);exact ⟨rfl,Nat.le_refl _,.inr ⟨eb,[],rfl,rfl,h2e,rfl⟩⟩;intro y hy;cases hy;exact ⟨hebA.step st2,heb⟩
  . show (upF W.y k [] (1 - k)).length+_ <= _;rw [Zdi (by omega),hl];exact hy
  rintro m s Hi ⟨i,n,a',c',es,Ai,ppi,Wi,rfl,hmi,hne,hL,hS,oE,hfE,hnow,hcnt,hyl,hn10,hF1,hF2⟩ g;unfold Zbpj;refine IfB.intro (fun e=>?_) fun e H3 hs=>?_
  rotate_left
  . have e:=of_decide_eq_false e;simp only at e;have hd0:(W.y k).drop i= []:=List.drop_eq_nil_of_le (by omega)
    rw [hd0] at hF1 hF2;have hF1:Wi=F.1:=hF1;have hF2:es++[]=F.2:=hF2;rw [List.append_nil] at hF2;rw [← hF1,← hF2]
    exact ⟨Ai,ppi,a',c',by rw [← hne],hL.shut h.keep hs,(hS.all st02).shut hs,by rw [← hne];exact Zbn oE hs,fun y hy=>⟨by
      have:=(hfE y hy).1.1;rcases hs y with e | ⟨_,_,e⟩;rw [e];exact this
      . rw [e];simp,(hfE y hy).1.2⟩⟩
  have e:=of_decide_eq_true e;simp only at e;have hil:i<xs.length:=by omega
  have hg:xs[i]? =some (xs[i]):=List.getElem?_eq_getElem hil;have hX2:=rows2 _ (List.getElem_mem hil);have hbi:(W.y k)[i]? =some (xs[i].1):=by rw [← hm,List.getElem?_map,hg];rfl
  generalize xs[i]=x at hg hX2 hbi;have hdrop:(W.y k).drop i=x.1::(W.y k).drop (i+1):=by
    have hlt:i<(W.y k).length:=by omega
    rw [List.drop_eq_getElem_cons hlt];rw [List.getElem?_eq_getElem hlt] at hbi;rw [Option.some.inj hbi]
  rw [hdrop] at hF1 hF2;have n5: ∀y,A2 5 y->¬((∃j,j≠5∧A2 j y)∨H y=none):=fun y hy hz=>by rcases hz with ⟨j,hj,hj2⟩ | hz;exact h2.reg.apart j 5 hj y hj2 hy;exact h.reg.live 5 y (five2 y hy) hz
  have hX:RwX Hi (Ai 5) x:=hX2.keep hS.kp n5 hS.five;have nOld: ∀y,a0=some ⟨y,0,none⟩->¬((∃j,j≠5∧A2 j y)∨H y=none):=fun y hy hz=>by rcases hz with ⟨j,hj,hj2⟩ | hz;exact (free2 y hy).2 j hj hj2;exact (old y hy) hz
  have oi:=o2.keep hS.kp nOld;rcases o2.2.2 with ⟨_,e0,_⟩ | ⟨ab,rest,e0,_,hab,_⟩;omega;subst e0;have fab:Free Hi Ai ab:=⟨hS.kp.live ab (free2 ab rfl).1,fun j hj hy=>(hS.grow j hj ab hy).elim ((free2 ab rfl).2 j hj) (free2 ab rfl).1⟩;have hrow:Hi.cell ⟨ab,0+i*1,none⟩=some (.slice x.2.1 x.1.length x.2.2):=by
    have hr:Reads Hi (some ⟨ab,0,none⟩) (xs.length*1) (wayL xs):=oi.reads;have:=hr.cell (j:=i) (by omega)
    rw [Zbjj xs i x hg] at this;rw [Nat.mul_one];exact this
  obtain ⟨wvi,hbi2,hwi⟩:=hL.ex;have hkeep: ∀y,y∈[lb,ab]->∃o,Hi y=some o:=fun y hy=>by
    rcases List.mem_cons.1 hy with rfl | hy;exact ⟨_,hbi2⟩
    . rw [List.mem_singleton.1 hy];cases hh:Hi ab with
      | none=>exact absurd hh fab.1
      | some o=>exact ⟨o,rfl⟩
  have hst:=hL.st k hk;have sbk:Ai k (sb k):=(hL.eqv k hk _).1 (.inl (.inl rfl));refine ⟨[lb,ab],hkeep,InB.intro k rfl hk ⟨List.mem_cons_self,_,cellL hbi2 _ (Zbga hk),NilP.intro _ rfl (InB.intro i rfl hil ?_)⟩⟩;rw [Zw];refine ⟨List.mem_cons_of_mem _ (List.mem_singleton.2 rfl),_,_,_,hrow,?_⟩;have hz:(10:Int)+((1 - k:Nat):Int)=((adr (1 - k):Nat):Int):=by unfold adr;omega
  rw [hw];refine (Zlf (adr (1 - k)) hz (by unfold adr;omega)).mono ?_
  rintro _ _ ⟨rfl,e2⟩;rw [e2];clear e2;have had:adr (1 - k)<4294967296:=by unfold adr;omega
  refine ⟨_,rfl,fun y hy=>by obtain ⟨o,ho⟩:=hkeep y hy;exact ⟨⟨o,ho⟩,rfl⟩,(take_at hst had hnow (by omega) (fun H' kk=>?_) hX.ok hX.len (Sh.Own.le hX.own)).mono ?_⟩
  . have:=Sh.Own.reads (Sh.Own.keep hX.own kk fun y hy e=>hL.reg.apart k 5 (by omega) y (e▸sbk) (hX.at_ y hy))
    rwa [Nat.mul_one] at this
  rintro _ H5 ⟨u,w,rfl,htk⟩;obtain ⟨Hm,He,p',q1,q2,q3,q4,q5,q6,q7,q8,q9⟩:=htk.ex;obtain ⟨tm1,tm2,tm3⟩:=Zbiv (Wi.s k) now (adr (1 - k)) x.1;obtain ⟨tk1,tk2,tk3⟩:=hst.ok.take (Int.le_trans hst.ok.now hnow) (adr (1 - k)) hX.ok;obtain ⟨A5,pp5,hL5,st5,hox,hfx⟩:=hL.callX hk q1 q2 q3 q4 q5 q6 (tm1.trans (hL.me k hk)) (fun b hb=>by
    obtain ⟨gg,hgg,rfl⟩:=List.mem_map.1 hb;exact Zzv (tk2 gg hgg) _ _)
  obtain ⟨ua,un,uc,rfl⟩:=hox.slice;obtain ⟨wa,wc,rfl,oW⟩:=q7.ex;have hkeep5:Zb [lb,ab] Hi H5:=fun y hy=>by
    obtain ⟨o,ho⟩:=hkeep y hy;refine ⟨⟨o,ho⟩,q2.same y (fun hG=>?_) (by rw [ho];simp)⟩
    have hA:=(hL.eqv k hk y).1 hG;rcases List.mem_cons.1 hy with rfl | hy;exact hL.reg.apart 2 k (by omega) y hL.own hA
    rw [List.mem_singleton.1 hy] at hA;exact fab.2 k (by omega) hA
  have hW5:({ Wi with s:=upF Wi.s k ((Wi.s k).take now (adr (1 - k)) x.1).S }:LW).y (1 - k)=Wi.y (1 - k):=rfl
  refine ⟨_,_,_,_,_,_,_,rfl,hkeep5,(Zbhj hL5 hk hox (by rw [hW5,List.length_map];omega)).mono ?_⟩
  rintro _ H6 ⟨rfl,A6,hL6,st6⟩;have st56:=st5.trans st6;have fW: ∀y,wa=some ⟨y,0,none⟩->Free H5 A5 y:=fun y hy=>by obtain ⟨cs,hb⟩:=oW.live hy;exact hfx y (q8.free (oW.free hy)) hb.some fun hG=>q9 y hG (oW.free hy)
  have oW6:=oW.keep st6.kp fun y hy=>(fW y hy).nz st6;have hrW:Reads H6 wa (((Wi.s k).take now (adr (1 - k)) x.1).evs.length*2) (evL ((Wi.s k).take now (adr (1 - k)) x.1).evs):=oW6.reads;have hev3:=Zcbw (Wi.s k) now (adr (1 - k)) x.1;have oE6:=oE.keep st56.kp fun y hy=>(hfE y hy).1.nz st56;have fE6: ∀y,a'=some ⟨y,0,none⟩->Free H6 A6 y∧H y=none:=fun y hy=>⟨(hfE y hy).1.step st56,(hfE y hy).2⟩;have fE7: ∀y,a'=some ⟨y,0,none⟩->Free H6 A6 y∧¬A6 5 y∧H0 y=none:=fun y hy=>⟨(fE6 y hy).1,fun h5=>by
    obtain ⟨c,hc⟩:=hL6.u8 y h5;obtain ⟨cs,hb⟩:=oE6.live hy;exact absurd (Zcl hc hb) (by decide),h.keep.free (hfE y hy).2⟩
  have kE:Keep (fun _=>True) emp H6:=⟨fun y hy=>absurd trivial hy,fun y hy=>absurd rfl hy⟩;refine ⟨rfl,Zbxv oE6 kE hrW (by show n+_ <= _;omega) fun a7 c7 H7 o7 ha7 k67=>⟨_,_,_,rfl,m - 1,by omega,i+1,n+((Wi.s k).take now (adr (1 - k)) x.1).evs.length,a7,c7,es++((Wi.s k).take now (adr (1 - k)) x.1).evs,A6,pp5,_,?_,by omega,by rw [List.length_append,hne],hL6.after k67 fE7,?_,o7,?_,?_,?_,?_,by omega,?_,?_⟩⟩
  . show ((((a7,n+_,c7),(IntKind.wrap .i64 ((i:Int)+1),())):(Option Addr×Nat×Nat)×Int×Unit))=_;rw [Zi (by omega) (by omega)];rfl
  refine ⟨fun j hj y hy=>(st56.grow j hj y hy).elim (hS.grow j hj y) fun e=> .inr (hS.kp.free e),(hS.kp.then st56.kp fun y ⟨j,hj,hy⟩=>(hS.grow j hj y hy).imp (fun e=> .inl ⟨j,hj,e⟩) id).then k67 fun y hy=> .inl (.inr (fE6 y hy).2),fun y hy=>st56.five y (hS.five y hy)⟩;intro y hy;rcases ha7 y hy with e | e;exact ⟨⟨k67.live y (fE6 y e).1.1,(fE6 y e).1.2⟩,(fE6 y e).2⟩;obtain ⟨cs,hb⟩:=o7.live hy;exact ⟨⟨hb.some,fun j hj hA=>hL6.reg.live j y hA e⟩,st02.kp.free (hS.kp.free (st56.kp.free e))⟩;show (upF Wi.s k ((Wi.s k).take now (adr (1 - k)) x.1).S k).now <= now;rw [Zce,tm2];exact Int.le_refl _;show (upF Wi.s k ((Wi.s k).take now (adr (1 - k)) x.1).S k).count+_<_;rw [Zce];omega;show (upF Wi.y (1 - k) (Wi.y (1 - k)++_) (1 - k)).length+_ <= _;rw [Zce,List.length_append,List.length_map];omega;exact hF1;rw [List.append_assoc];exact hF2
end
end Go.Proofs.YtaljkjokbdpdoaaGreat
end
section
set_option maxRecDepth 100000
namespace Go.Proofs.YtaljkjokbdpdoaaGreat
open Go.Sh Go.Pc Go.Conn
section
variable {H0 H H':Heap} {lb:Nat} {A A':Nat->Nat->Prop} {pp:Nat->StP} {sb:Nat->Nat} {W:LW} {k:Nat}
theorem Zbxy {a b:Nat} (ha:a<4294967296) (hb:b<4294967296):FnW Tryz.prog Zwq ⟨[.int .u32 a,.int .u32 b]⟩ H fun v H'=>∃lb A pp sb,v= .pointer (some ⟨lb,0,none⟩)∧LRep H H' lb A pp sb (LW.start a b):=by
  refine Zcgm a b ?_;unfold Zbml;refine (Zlf 10 rfl (by decide)).mono ?_
  rintro _ _ ⟨rfl,e⟩;rw [e];clear e;refine ⟨_,rfl,(Zux (me:=10) (by decide) ha).mono ?_⟩
  rintro _ H1 ⟨s0,p0,rfl,h0,k01,n0⟩;refine ⟨_,rfl,(Zlf 11 rfl (by decide)).mono ?_⟩
  rintro _ _ ⟨rfl,e⟩;rw [e];clear e;refine ⟨_,rfl,(Zux (me:=11) (by decide) hb).mono ?_⟩
  rintro _ H2 ⟨s1,p1,rfl,h1,k12,n1⟩;refine ⟨_,rfl,newB fun lb H3 hlb bl k23=>InB.intro 1 rfl (by decide) ⟨_,cellL bl 1 rfl,(Zbcz (h1.keep k23 fun _ _ h=>h) (n:=179) (by decide) rfl (show 0<8 by decide)).mono ?_⟩⟩
  rintro _ H4 ⟨p4,rfl,h4,k34,g4⟩;refine ⟨_,rfl,ifF rfl fun H5 hs=>?_⟩;have k02:=k01.trans k12;have k03:=k02.trans k23;have lb4: ¬p4.G s1 lb:=fun hy=>(g4 lb hy).elim (fun e=>h1.live e hlb) bl.some;have lb1: ¬p1.G s1 lb:=fun e=>h1.live e hlb;have bl4:=k34.blk bl lb1;have d01: ∀y,p0.G s0 y->¬p1.G s1 y:=fun y hy hz=>(h0.live hy) (n1 y hz);have h0':=((h0.keep k12 fun _ _ h=>h).keep k23 fun _ _ h=>h).keep k34 d01;have l0: ∀y,p0.G s0 y->y≠lb:=fun y hy e=>(k12.live y (h0.live hy)) (e▸hlb);have d04: ∀y,p0.G s0 y->¬p4.G s1 y:=fun y hy hz=>(g4 y hz).elim (d01 y hy) ((k23.live y (k12.live y (h0.live hy))))
  let A:Nat->Nat->Prop:=fun i=>if i=0 then p0.G s0 else if i=1 then p4.G s1 else if i=2 then (fun y=>y=lb) else Nil
  have A0:A 0=p0.G s0:=rfl;have A1:A 1=p4.G s1:=rfl;have A2:A 2=fun y=>y=lb:=rfl;have Ai: ∀i,3 <= i->A i=Nil:=fun i hi=>by
    show (if i=0 then _ else if i=1 then _ else if i=2 then _ else _)=_
    rw [if_neg (by omega),if_neg (by omega),if_neg (by omega)]
  have cs: ∀i y,A i y->(i=0∧p0.G s0 y)∨(i=1∧p4.G s1 y)∨(i=2∧y=lb):=fun i y hy=>by
    by_cases e0:i=0;subst e0;exact .inl ⟨rfl,hy⟩;by_cases e1:i=1;subst e1;exact .inr (.inl ⟨rfl,hy⟩);by_cases e2:i=2;subst e2;exact .inr (.inr ⟨rfl,hy⟩)
    . rw [Ai i (by omega)] at hy;exact hy.elim
  refine ⟨lb,A,(fun k=>if k=0 then p0 else p4),(fun k=>if k=0 then s0 else s1),rfl,LRep.shut (H0:=H) (H1:=H) ⟨⟨fun i y hy=>?_,fun i y hy=>?_,fun i j hij y hi hj=>?_⟩,?_,rfl,fun k hk=>?_,fun k hk y=>?_,fun k hk=>?_,fun y hy=>?_,(fun _=> .slice none 0 0),bl4,fun k hk=>⟨none,0,[],rfl,rfl,Sh.Own.nil,(fun y h=>by cases h),(fun x h=>by cases h)⟩⟩ (Keep.refl _ _) hs⟩
  rcases cs i y hy with ⟨_,h⟩ | ⟨_,h⟩ | ⟨_,h⟩;exact h0'.live h;exact h4.live h;rw [h];exact bl4.some;rcases cs i y hy with ⟨_,h⟩ | ⟨_,h⟩ | ⟨_,h⟩;exact n0 y h;rcases g4 y h with e | e;exact k01.free (n1 y e);exact k03.free e;rw [h];exact k02.free hlb;rcases cs i y hi with ⟨e,h⟩ | ⟨e,h⟩ | ⟨e,h⟩<;>rcases cs j y hj with ⟨e2,h2⟩ | ⟨e2,h2⟩ | ⟨e2,h2⟩;omega;exact d04 y h h2;exact l0 y h h2;exact d04 y h2 h;omega;rw [h2] at h;exact lb4 h;exact l0 y h2 h;rw [h] at h2;exact lb4 h2;omega;exact k03.then k34 fun y hy=> .inr (k01.free (n1 y hy));rcases Zeg hk with rfl | rfl;exact h0';exact h4;rcases Zeg hk with rfl | rfl<;>exact Iff.rfl;rcases Zeg hk with rfl | rfl<;>rfl
  . rw [Ai 5 (by omega)] at hy;exact hy.elim
theorem LRep.sbk (h:LRep H0 H lb A pp sb W) (hk:k<2):H.cell ⟨lb,0+k*1,none⟩=some (.pointer (some ⟨sb k,0,none⟩)):=by obtain ⟨wv,hb,_⟩:=h.ex;exact cellL hb _ (Zbga hk)
theorem LRep.lb_kept (h:LRep H0 H lb A pp sb W) (hk:k<2) {H1:Heap} (kk:Keep ((pp k).G (sb k)) H H1):(∀b∈[lb],∃o,H b=some o)∧Zb [lb] H H∧Zb [lb] H H1:=by obtain ⟨wv,hb,_⟩:=h.ex;obtain ⟨kp1,kp0⟩:=Zcq hb.some;refine ⟨kp1,kp0,fun y hy=>?_⟩;obtain ⟨o,ho⟩:=kp1 y hy;rw [List.mem_singleton.1 hy] at ho ⊢;exact ⟨⟨o,ho⟩,kk.same lb (fun hG=>h.reg.apart 2 k (by omega) lb h.own ((h.eqv k hk lb).1 hG)) hb.some⟩
end
end Go.Proofs.YtaljkjokbdpdoaaGreat
end
section
set_option maxRecDepth 100000
namespace Go.Conn
end Go.Conn
namespace Go.Proofs.YtaljkjokbdpdoaaGreat
open Go.Sh Go.Pc Go.Conn
section
variable {H0 H H':Heap} {lb:Nat} {A A':Nat->Nat->Prop} {pp:Nat->StP} {sb:Nat->Nat} {W:LW} {k:Nat} {a b:Nat}
theorem Zbyx {base:Option Addr} {n:Nat} {xs:List Value} (h:Reads H0 base n xs) (k: ∀y,H0 y≠none->H y=H0 y):Reads H base n xs:=by
  cases base with
  | none=>exact h
  | some x=>
    refine ⟨h.1,fun h0=>?_⟩;obtain ⟨hs,c,T,fr,hb,hc⟩:=h.2 h0;exact ⟨hs,c,T,fr,by rw [k x.block (by rw [hb];simp)];exact hb,hc⟩
theorem Zbxu {l:List Sg} (h: ∀g∈l,Goes g) (x y:Nat): ∀b∈l.map (outV x y),AllB b∧b.length <= 60000:=fun b hb=>by obtain ⟨g,hg,rfl⟩:=List.mem_map.1 hb;exact Zzv (h g hg) x y
theorem LRep.put0 {s0 s1:Stk} {y0 y1 g:List Sg} (h:LRep H0 H lb A pp sb { lw a b s0 s1 y0 y1 with y:=upF (lw a b s0 s1 y0 y1).y (1 - 0) ((lw a b s0 s1 y0 y1).y (1 - 0)++g.map (outV 10 11)) }):LRep H0 H lb A pp sb (lw a b s0 s1 y0 (y1++g)):=by rw [← Zbwn];exact h
theorem Zbvi {R:Value->Heap->Prop} {K:Option Addr->Prop} (ha:a<4294967296) (hb:b<4294967296) (h:LRep H0 H lb A pp sb (LW.start a b)):
    FnW Tryz.prog Zor ⟨[.pointer (some ⟨sb 0,0,none⟩),.int .i64 0,.int .u32 (11:Nat),.int .i64 179]⟩ H fun v H1=>∃(oa:Option Addr) (on oc:Nat),v= .tuple ⟨[.int .i64 1,.slice oa on oc,.int .i64 0]⟩∧Zb [lb] H H1∧
      FnW Tryz.prog Zlz ⟨[.pointer (some ⟨lb,0,none⟩),.int .i64 0,.slice oa on oc]⟩ H1 fun v H2=>v= .tuple ⟨[]⟩∧
      FnW Tryz.prog Zgz ⟨[.pointer (some ⟨lb,0,none⟩),.int .i64 0,.int .i64 1]⟩ H2 fun v H3=>∃(ea:Option Addr) (en ec:Nat),v= .slice ea en ec∧
      FnW Tryz.prog Zgz ⟨[.pointer (some ⟨lb,0,none⟩),.int .i64 0,.int .i64 0]⟩ H3 fun v H4=>∃(fb fc:Nat),v= .slice (some ⟨fb,0,none⟩) 1 fc∧
      FnW Tryz.prog Zgz ⟨[.pointer (some ⟨lb,0,none⟩),.int .i64 0,.int .i64 1]⟩ H4 fun v H5=>∃(gb gc:Nat) (A5:Nat->Nat->Prop) (p5:Nat->StP),v= .slice (some ⟨gb,0,none⟩) 1 gc∧
      LRep H0 H5 lb A5 p5 sb (lw a b (S0 a (c0g (addN a 64000) (addN b 64000)) 0) (S1 b (c1g (addN a 64000) (addN b 64000)) 0) [] [])∧Reads H5 (some ⟨fb,0,none⟩) 2 (evL [(1,1)])∧Reads H5 (some ⟨gb,0,none⟩) 2 (evL [(1,1)]):=by
  rw [Zcbj] at h;refine (Zcah (h.st 0 (by decide)) (now:=0) (n:=179) (to:=11) (Int.le_refl 0) (by decide) (by decide) (by show 0<16;decide) (by show 0<1000000;decide) rfl).mono ?_
  rintro _ H1 ⟨u,rfl,hd⟩;have hgo: ∀g∈(dial 49153 179 (addN a 64000)).1,Goes g:=(Zbel (addN a 64000) Zbfk Zbfj).1;obtain ⟨A1,p1,h1,st1,ox⟩:=h.call (k:=0) (by decide) hd rfl (Zbxu hgo 10 11)
  have hk1:=(h.lb_kept (k:=0) (by decide) (by obtain ⟨Hm,p',q1,q2,_⟩:=hd.ex;exact q2)).2.2
  rw [Zbwo] at h1;have h1:LRep H0 H1 lb A1 p1 sb (lw a b (S0 a (cD (addN a 64000)) 0) ⟨11,b,[179],[],0,0⟩ [] []):=h1;have ox:OutX H0 H1 A1 u (adr (1 - 0)) ([Zco (addN a 64000)].map (outV 10 11)):=ox;obtain ⟨oa,on,oc,rfl⟩:=ox.slice;refine ⟨_,_,_,rfl,hk1,(Zbhj h1 (k:=0) (by decide) ox (by show 0+1 <= 100000;decide)).mono ?_⟩
  rintro _ H2 ⟨rfl,A2,h2,st2⟩;have h2:=h2.put0;rw [List.nil_append] at h2;refine ⟨rfl,(Zvs h2 (k:=1) (now:=0) (by decide) (Int.le_refl 0) (by show 0+1<1000000;decide) (by show 0+4098*1 <= 100000;decide)).mono ?_⟩
  rintro _ H3 ⟨A3,p3,ea,ec,rfl,h3,st3,_,_⟩;rw [hand1 ha hb] at h3;refine ⟨_,_,_,rfl,(Zvs h3 (k:=0) (now:=0) (by decide) (Int.le_refl 0) (by show 1+1<1000000;decide) (by show 0+4098*1 <= 100000;decide)).mono ?_⟩
  rintro _ H4 ⟨A4,p4,fa,fc,rfl,h4,st4,o4,f4⟩;have hh2:=hand2 ha hb (s1:=S1 b (cA (addN a 64000) (addN b 64000)) 0);rw [hh2] at h4 o4;rw [hh2];rcases o4.2.2 with ⟨_,e0,_⟩ | ⟨fb,rest,rfl,_,hfb,_⟩;cases e0;refine ⟨fb,fc,rfl,(Zvs h4 (k:=1) (now:=0) (by decide) (Int.le_refl 0) (by show 1+1<1000000;decide) (by show 0+4098*1 <= 100000;decide)).mono ?_⟩
  rintro _ H5 ⟨A5,p5,ga,gc,rfl,h5,st5,o5,f5⟩;have hh3:=hand3 ha hb (s0:=S0 a (c0g (addN a 64000) (addN b 64000)) 0);rw [hh3] at h5 o5;rw [hh3];rcases o5.2.2 with ⟨_,e0,_⟩ | ⟨gb,rest,rfl,_,hgb,_⟩;cases e0;refine ⟨gb,gc,A5,p5,rfl,h5,?_,o5.reads⟩;exact (o4.keep st5.kp fun y hy=>(f4 y hy).nz st5).reads
theorem Zbgc (h:LRep H0 H lb A pp sb W) {i:Nat} (hi:i<2) {z:Int} (hz:z=i) {K:Option Addr->Prop} (hK:K (some ⟨sb i,0,none⟩)):NilP (some ⟨lb,0,none⟩) fun p=>InB z 2 fun m=>elemAt p m 1 fun q=>∃x:Option Addr,H.cell q=some (.pointer x)∧K x:=by refine NilP.intro _ rfl (InB.intro i hz hi ?_);rw [Zw];exact ⟨_,h.sbk hi,hK⟩
theorem Zcda:FnW Tryz.prog Zwp ⟨[]⟩ H fun v H'=>v= .bool true∧Keep Nil H H':=by
  refine Zcgl ?_;unfold Zbmk;refine (Zbxy (a:=7) (b:=8) (by decide) (by decide)).mono ?_
  rintro _ H1 ⟨lb,A,pp,sb,rfl,h⟩;have hlb:=(h.lb_kept (k:=0) (by decide) (Keep.refl _ _))
  refine ⟨_,rfl,ifF rfl ⟨[lb],hlb.1,NilP.intro _ rfl (InB.intro 0 rfl (by decide) ?_)⟩⟩
  rw [Zw];refine ⟨List.mem_singleton.2 rfl,_,h.sbk (k:=0) (by decide),(Zlf 11 rfl (by decide)).mono ?_⟩
  rintro _ _ ⟨rfl,e⟩;rw [e];clear e;refine ⟨_,rfl,hlb.2.1,(Zbvi (R:=fun _ _=>True) (K:=fun _=>True) (by decide) (by decide) h).mono ?_⟩
  rintro _ H2 ⟨oa,on,oc,rfl,hk2,hput⟩;refine ⟨_,_,_,_,_,rfl,hk2,hput.mono ?_⟩;rintro _ H3 ⟨rfl,hc1⟩;refine ⟨rfl,hc1.mono ?_⟩;rintro _ H4 ⟨ea,en,ec,rfl,hc2⟩;refine ⟨_,_,_,rfl,hc2.mono ?_⟩;rintro _ H5 ⟨fb,fc,rfl,hc3⟩;refine ⟨_,_,_,rfl,hc3.mono ?_⟩;rintro _ H6 ⟨gb,gc,A6,p6,rfl,h6,rf,rg⟩;have f0:=rf.cell (j:=0) (by decide)
  have f1:=rf.cell (j:=1) (by decide)
  have g0:=rg.cell (j:=0) (by decide)
  have g1:=rg.cell (j:=1) (by decide)
  have hev:Program.eqGuardType Tryz.prog (Program.depth Tryz.prog) Zbi=false:=by kernel_rfl
  refine ⟨_,_,_,rfl,ifT rfl (ifT rfl (ifT rfl (NilP.intro _ rfl (InB.intro 0 rfl (by decide) ?_))))⟩
  rw [Zw];refine ⟨_,f0,_,f1,hev,ifT rfl (ifT rfl (NilP.intro _ rfl (InB.intro 0 rfl (by decide) ?_)))⟩
  rw [Zw];refine ⟨_,g0,_,g1,NilP.intro _ rfl (InB.intro 0 rfl (by decide) ?_)⟩
  rw [Zw];refine ⟨_,f0,_,f1,hev,ifT rfl (Zbgc h6 (i:=0) (by decide) rfl ((Zbiq (h6.st 0 (by decide)) 1).mono ?_))⟩
  rintro _ _ ⟨rfl,e⟩;rw [e];clear e;refine ⟨_,rfl,ifT rfl (Zbgc h6 (i:=1) (by decide) rfl ((Zbiq (h6.st 1 (by decide)) 1).mono ?_))⟩
  rintro _ _ ⟨rfl,e⟩;rw [e];clear e;exact ⟨_,rfl,fun H7 hs=>⟨rfl,Zk h6.keep hs⟩⟩
end
end Go.Proofs.YtaljkjokbdpdoaaGreat
end
section
set_option maxRecDepth 100000
namespace Go.Proofs.YtaljkjokbdpdoaaGreat
open Go.Sh Go.Pc
theorem Zzo {H:Heap} {b:Nat} {T:TypeId} {v:Value} (h:Blk H b T ⟨[v]⟩):H.cell ⟨b,0,none⟩=some v:=by rw [h.cell];rfl
theorem Zbwg: ∃it,Tryz.prog.info? Zl=some it∧it.size=1∧it.bytes=8:=by
  have h:(Tryz.prog.info? Zl).map (fun i=>(i.size,i.bytes))=some (1,8):=by kernel_rfl
  cases hi:Tryz.prog.info? Zl with
  | none=>rw [hi] at h;cases h
  | some it=>
    rw [hi] at h;simp only [Option.map_some,Option.some.injEq,Prod.mk.injEq] at h;exact ⟨it,rfl,h.1,h.2⟩
theorem Zbsz {Hs H:Heap} {bx n cap:Nat} {a:Option Addr} {xs:List Value} {k:Int} {K:Heap->Prop} {R:Value->Heap->Prop} (k0:Keep Nil Hs H) (hx:Hs bx=none) (hB:Blk H bx Zbt ⟨[.slice a n cap]⟩) (hO:Sh.Own Hs H a n cap 1 Zl xs) (hn:n <= 1000000)
    (hk: ∀H3,Keep Nil Hs H3->(∀b,H b≠none->b≠bx->(∀T c,¬Blk H b T c)->H3 b=H b)->(∃a' cap',Blk H3 bx Zbt ⟨[.slice a' (n+1:Nat) cap']⟩∧Sh.Own Hs H3 a' (n+1) cap' 1 Zl (xs++[.int .i64 k]))->K H3):
    Zbmc bx k H K R:=by
  refine ⟨a,n,cap,Zzo hB,?_⟩;intro q hq;have hqb:q≠bx:=fun e=>by subst e;exact hB.some hq
  have kq:Keep Nil H (H.upd q (.cells ⟨[.int .i64 k]⟩ Zl (0,0))):=(Keep.refl _ _).new hq;have hBq:Blk (H.upd q (.cells ⟨[.int .i64 k]⟩ Zl (0,0))) q Zl ⟨[.int .i64 k]⟩:=upd_eq;have hne: ∀b,b≠q->(H.upd q (.cells ⟨[.int .i64 k]⟩ Zl (0,0))) b=H b:=fun b hb=>upd_ne hb;generalize H.upd q (.cells ⟨[.int .i64 k]⟩ Zl (0,0))=H1 at kq hBq hne ⊢;have hO1:Sh.Own Hs H1 a n cap 1 Zl xs:=hO.keep kq fun _ _ h=>h;obtain ⟨it,hit,hsz,hby⟩:=Zbwg;refine Zgj (S:=Nil) Tryz.underlying29 Tryz.underlying29 hit hsz hby (by decide) (z:=[.int .i64 0]) (by kernel_rfl) rfl hO1 (k0.trans kq) (new:=[.int .i64 k]) (Reads.blk hBq rfl fun j hj=>?_) (fun v hv=>?_) (by omega) fun a' cap' H2 _ h1 hnew h2 h3=>?_
  rw [Nat.zero_add];simp;simp only [List.mem_singleton] at hv;subst hv;rfl;refine ⟨a',n+1,cap',rfl,?_⟩;have hab:a≠some ⟨bx,0,none⟩:=fun e=>by
    obtain ⟨c,hc⟩:=hO.live e;have:(Obj.cells c Zl (0,0))= .cells ⟨[.slice a n cap]⟩ Zbt (0,0):=Option.some.inj (hc.symm.trans hB);injection this with _ h _
    exact absurd h (by decide)
  have hB2:Blk H2 bx Zbt ⟨[.slice a n cap]⟩:=h2.blk (kq.blk hB fun h=>h) hab;refine Za.blk hB2 (by simp) rfl ?_
  have hB3:Blk (H2.upd bx (.cells ⟨[.slice a' (n+1:Nat) cap']⟩ Zbt (0,0))) bx Zbt ⟨[.slice a' (n+1:Nat) cap']⟩:=upd_eq;refine hk _ (h3.then (S':=fun b=>b=bx) ⟨fun b hb _=>upd_ne hb,fun b hb=>?_⟩ fun b e=> .inr (by rw [e];exact hx)) (fun b hb hbb hnb=>?_) ⟨a',cap',hB3,?_⟩
  by_cases e:b=bx;subst e;show (H2.upd b _) b≠none;rw [upd_eq];simp;show (H2.upd bx _) b≠none;rw [upd_ne e];exact hb
  . show (H2.upd bx _) b=_;rw [upd_ne hbb,h2.same b (fun e=>?_) (kq.live b hb),hne b fun e=>hb (by rw [e];exact hq)]
    obtain ⟨c,hc⟩:=hO.live e;exact hnb _ _ hc
  refine h1.keep (S:=fun b=>b=bx) ⟨fun b hb _=>upd_ne hb,fun b hb=>?_⟩ fun b e hbx=>?_;by_cases e:b=bx;subst e;show (H2.upd b _) b≠none;rw [upd_eq];simp;show (H2.upd bx _) b≠none;rw [upd_ne e];exact hb;subst hbx;rcases hnew b e with h | h;exact hab h;exact (kq.live b hB.some) h
def ivs (l:List Int):List Value:=l.map (Value.int .i64)
def KeysOf (H:Heap) (ks:List Int) (v:Value) (H':Heap):Prop:=∃(a:Option Addr) (cap:Nat) (xs:List Int),v= .slice a xs.length cap∧Keep Nil H H'∧xs.Perm ks∧Sh.Own H H' a xs.length cap 1 Zl (ivs xs)
theorem KeysOf.shut {H H' H2:Heap} {ks:List Int} {v:Value} (h:KeysOf H ks v H') (hs:Shut H H' H2):KeysOf H ks v H2:=by obtain ⟨a,cap,xs,h1,h2,h3,h4⟩:=h;exact ⟨a,cap,xs,h1,Zk h2 hs,h3,Zbn h4 hs⟩
theorem Zbxw {zs:List Int}: ∀e:Int,ivs zs++[.int .i64 e]=ivs (zs++[e]):=fun e=>by simp [ivs]
structure KInv (H0:Heap) (sb l itb mb:Nat) (rec:Loop) (es:List MapEntry) (ck:Nat) (f:MapEntry->Int) (seen:List MapEntry) (H:Heap):Prop where
  it:H itb=some (.mapIter (some mb) ck ⟨seen.map (·.born)⟩ ck)
  mp:H mb=some (.map ⟨es⟩ ck)
  lp:H l=some (.loop rec)
  row: ∃a cap,Blk H sb Zbt ⟨[.slice a seen.length cap]⟩∧Sh.Own H0 H a seen.length cap 1 Zl (ivs (seen.map f))
  keep:Keep Nil H0 H
  sub: ∀e∈seen,e∈es
  nd:(seen.map (·.born)).Nodup
theorem Zbwy {es:List MapEntry}: ∀{seen:List MapEntry},(∀e∈seen,e∈es)->(seen.map (·.born)).Nodup->seen.length <= es.length:=by
  intro seen hs hn;have hn2:seen.Nodup:=by
    induction seen with
    | nil=>exact List.nodup_nil
    | cons x r ih=>
      simp only [List.map_cons,List.nodup_cons,List.mem_map,not_exists,not_and] at hn;exact List.nodup_cons.2 ⟨fun h=>hn.1 x h rfl,ih (fun e he=>hs e (List.mem_cons_of_mem _ he)) hn.2⟩
  exact hn2.length_le_of_subset fun e he=>hs e he
theorem Zbxz {es:List MapEntry} {seen:List MapEntry} (hd:(es.map (·.born)).Nodup) (hs: ∀e∈seen,e∈es) (hn:(seen.map (·.born)).Nodup) (hall: ∀e∈es,e.born∈seen.map (·.born)):seen.Perm es:=by
  have inj: ∀{l:List MapEntry},(l.map (·.born)).Nodup->∀x∈l,∀y∈l,x.born=y.born->x=y:=by
    intro l;induction l with
    | nil=>intro _ x hx;cases hx
    | cons z r ih=>
      intro h x hx y hy e;simp only [List.map_cons,List.nodup_cons,List.mem_map,not_exists,not_and] at h;rcases List.mem_cons.1 hx with e1 | hx1<;>rcases List.mem_cons.1 hy with e2 | hy1;rw [e1,e2];rw [e1] at e;exact absurd e.symm (h.1 y hy1);rw [e2] at e;exact absurd e (h.1 x hx1);exact ih h.2 x hx1 y hy1 e
  have nd: ∀{l:List MapEntry},(l.map (·.born)).Nodup->l.Nodup:=by
    intro l;induction l with
    | nil=>intro _;exact List.nodup_nil
    | cons z r ih=>
      intro h;simp only [List.map_cons,List.nodup_cons,List.mem_map,not_exists,not_and] at h;exact List.nodup_cons.2 ⟨fun hm=>h.1 z hm rfl,ih h.2⟩
  refine (List.perm_ext_iff_of_nodup (nd hn) (nd hd)).2 fun e=>⟨hs e,fun he=>?_⟩;obtain ⟨x,hx,hxe⟩:=List.mem_map.1 (hall e he);rw [← inj hd x (hs x hx) e he hxe];exact hx
end Go.Proofs.YtaljkjokbdpdoaaGreat
end
section
set_option maxRecDepth 100000
namespace Go.Proofs.YtaljkjokbdpdoaaGreat
open Go.Sh Go.Pc
abbrev Zia:FuncId:=Zwd
theorem again {rec:Loop} (hst:rec.state= .ready) (hpe:rec.pending=none): { ({ rec with state:= .busy }:Loop) with state:= .ready,pending:=none }=rec:=by cases rec;simp only at hst hpe;subst hst hpe;rfl
theorem Zvi {H:Heap} {b c:Nat} {T:TypeId} {cs:Array Value} {o:Obj} (h:Blk H b T cs) (hc:H c=some o) (ho: ∀x y z,o≠ .cells x y z):b≠c:=fun e=>by subst e;unfold Blk at h;rw [h] at hc;exact ho _ _ _ (Option.some.inj hc).symm
theorem Zrd {H0 H:Heap} {a:Option Addr} {n cap sz:Nat} {T:TypeId} {xs:List Value} {q:Nat} {o:Obj} (h:Sh.Own H0 H a n cap sz T xs) (hq: ∀c,¬Blk H q T c):Sh.Own H0 (H.upd q o) a n cap sz T xs:=by obtain ⟨h1,h2,h3⟩:=h;refine ⟨h1,h2,?_⟩;rcases h3 with h | ⟨m,rest,e,h0,hb,hr⟩;exact .inl h;exact .inr ⟨m,rest,e,h0,hb.same (upd_ne fun e=>by subst e;exact hq _ hb),hr⟩
theorem Zil {H:Heap} {q:Nat} {o:Obj} (hc:H q=some o) (ho: ∀x y z,o≠ .cells x y z) (T:TypeId) (c:Array Value): ¬Blk H q T c:=fun h=>by unfold Blk at h;rw [h] at hc;exact ho _ _ _ (Option.some.inj hc).symm
set_option maxHeartbeats 1000000
theorem Zbwh {H:Heap} {bx bo mb ck:Nat} {es:List MapEntry} {ks:List Int} {f:MapEntry->Int} (hbx:H.cell ⟨bx,bo,none⟩=some (.map (some mb))) (hm:H mb=some (.map ⟨es⟩ ck)) (hb: ∀e∈es,e.born<ck) (hd:(es.map (·.born)).Nodup)
    (hks: ∀e∈es,e.key= .int .i64 (f e)) (hke:ks=es.map f) (hl:es.length <= 1000000):
    FnW Tryz.prog Zwl ⟨[.slice none 0 0,.func (.func Zia) #[] ⟨[.pointer (some ⟨bx,bo,none⟩)]⟩]⟩ H (KeysOf H ks):=by
  generalize hfn:Value.func (.func Zia) #[] ⟨[.pointer (some ⟨bx,bo,none⟩)]⟩=fnv;refine FnW.of_code Zbvj (by kernel_rfl) ?_
  generalize hR:(fun v H'=>∀H'',Shut H H' H''->KeysOf H ks v H'')=R;have done: ∀v H',KeysOf H ks v H'->R v H':=fun v H' hv=>by rw [← hR];exact fun H2 hs=>hv.shut hs
  have e:Zbw Tryz.f160= .seq (cL (Zbw Tryz.f160)) (.seq (.seq (cL (cL (cR (Zbw Tryz.f160)))) (.block 0 (.rangeFunc (.tmp 6) #[7] (cA (cK (cR (cL (cR (Zbw Tryz.f160)))))) (cB (cK (cR (cL (cR (Zbw Tryz.f160))))))))) (cR (cR (Zbw Tryz.f160)))):=by kernel_rfl
  rw [e];refine Zbax (K:=fun ρ' H'=>∃sb,ρ' 1=fnv∧ρ' 2= .pointer (some ⟨sb,0,none⟩)∧H sb=none∧Keep Nil H H'∧Blk H' sb Zbt ⟨[.slice none 0 0]⟩) ?_ ?_;have h1:=Zcfv (env0 [.slice none 0 0,fnv]) none 0 0 fnv H (fun v1 v2 H'=>∃sb,v1=fnv∧v2= .pointer (some ⟨sb,0,none⟩)∧H sb=none∧Keep Nil H H'∧Blk H' sb Zbt ⟨[.slice none 0 0]⟩) R;rw [put2 (ρ:=env0 [.slice none 0 0,fnv]) (d1:=0) (v1:= .slice none 0 0) (d2:=1) (v2:=fnv) rfl rfl] at h1;exact Eq.mp h1 fun q hq=>⟨q,rfl,rfl,hq,(Keep.refl _ _).new hq,upd_eq⟩;rintro ρ1 H1 ⟨sb,e1,e2,hsb,k1,hB1⟩;refine Zbax (K:=fun ρ' H'=>ρ' 2= .pointer (some ⟨sb,0,none⟩)∧∃a cap xs,Blk H' sb Zbt ⟨[.slice a xs.length cap]⟩∧Keep Nil H H'∧xs.Perm ks∧Sh.Own H H' a xs.length cap 1 Zl (ivs xs)) ?_ ?_
  rotate_left
  . rintro ρ2 H2 ⟨f2,a,cap,xs,hB,k2,hp,ho⟩;have h4:=Zcgc ρ2 sb H2 (fun _=>False) R;rw [Zgm f2] at h4;refine Ze.mono _ (fun e ρ' H' he=>?_) _ _ (Eq.mp h4 ⟨a,_,cap,Zzo hB,done _ _ ⟨a,cap,xs,rfl,k2,hp,ho⟩⟩);cases e<;>simp only [Zet] at he ⊢ <;>first | exact he.elim | exact he
  refine Zbax (K:=fun ρ' H'=>ρ' 2= .pointer (some ⟨sb,0,none⟩)∧ρ' 6=fnv∧H'=H1) ?_ ?_
  . have h1:=Zcfx ρ1 fnv (.pointer (some ⟨sb,0,none⟩)) H1 (fun v1 v2 H'=>v1= .pointer (some ⟨sb,0,none⟩)∧v2=fnv∧H'=H1) R;rw [put2 e1 e2] at h1;refine Ze.mono _ (fun e ρ' H' he=>?_) _ _ (Eq.mp h1 ⟨rfl,rfl,rfl⟩);cases e<;>simp only [Zet] at he ⊢ <;>first | exact he.elim | exact he
  rintro ρ2 H2 ⟨f2,f6,rfl⟩;refine Zbtm ?_;simp only [Ze];rw [show ev ρ2 (.tmp 6)=Value.func (.func Zia) #[] ⟨[.pointer (some ⟨bx,bo,none⟩)]⟩ from f6.trans hfn.symm]
  refine ⟨rfl,fun nt d l rec hdn hln hne hst hpe hps hra hrb hT hrnd=>?_⟩;rw [show (#[Value.func (.yield l) #[] #[]]++(⟨[Value.pointer (some ⟨bx,bo,none⟩)]⟩:Array Value))=⟨[.func (.yield l) #[] #[],.pointer (some ⟨bx,bo,none⟩)]⟩ from by apply Array.ext';simp]
  have hlH:H l=none:=k1.free hln;have hdH:H d=none:=k1.free hdn;have kS:Keep Nil H ((H2.upd d (.deferred (some []))).upd l (.loop rec)):=(k1.new hdn).new (by rw [upd_ne hne];exact hln)
  have hLs:((H2.upd d (.deferred (some []))).upd l (.loop rec)) l=some (.loop rec):=upd_eq;have hBs:Blk ((H2.upd d (.deferred (some []))).upd l (.loop rec)) sb Zbt ⟨[.slice none 0 0]⟩:=by refine hB1.same ?_;rw [upd_ne (fun x=>by subst x;rw [hB1] at hln;cases hln),upd_ne (fun x=>by subst x;rw [hB1] at hdn;cases hdn)]
  generalize (H2.upd d (.deferred (some []))).upd l (.loop rec)=Hs at kS hLs hBs ⊢;have hbxs:Hs.cell ⟨bx,bo,none⟩=some (.map (some mb)):=by rw [← hbx];simp only [Heap.cell];rw [kS.same bx (fun x=>x) fun h0=>by simp [Heap.cell,h0] at hbx]
  have hms:Hs mb=some (.map ⟨es⟩ ck):=by rw [kS.same mb (fun x=>x) (by rw [hm];simp)];exact hm
  refine Zcdt l bx bo ?_;unfold Zbka;refine ⟨.map (some mb),hbxs,?_⟩;refine (SemW.bind _ _ _ _).2 (RgG (kt:=Zl) (el:=Zja) (by kernel_rfl) hms fun itb hitn=>?_)
  dsimp only [SemW,pure,Sem.pure,Zba];have fin: ∀(seen:List MapEntry) (Hc:Heap),KInv H sb l itb mb rec es ck f seen Hc->(∀e∈es,e.born∈seen.map (·.born))->∀H3,Shut Hs Hc H3->EndC l ρ2 H3 (Zjh 0 (Zet (fun ρ' H'=>ρ' 2= .pointer (some ⟨sb,0,none⟩)∧∃a cap xs,Blk H' sb Zbt ⟨[.slice a xs.length cap]⟩∧Keep Nil H H'∧xs.Perm ks∧Sh.Own H H' a xs.length cap 1 Zl (ivs xs)) (RetW Tryz.prog Tryz.f160.results.toList R))):=by
    intro seen Hc hi hall H3 hs;have hl3:H3 l=some (.loop rec):=by rcases hs l with e | ⟨_,e,_⟩;rw [e];exact hi.lp;rw [hi.lp] at e;cases e
    obtain ⟨a,cap,hB,hO⟩:=hi.row;have hB3:=Zcb hB hs;have hO3:Sh.Own H H3 a seen.length cap 1 Zl (ivs (seen.map f)):=Zbn hO hs;have hk3:Keep Nil H H3:=⟨fun b _ h0=>by
      rcases hs b with e | ⟨e,_,_⟩;rw [e];exact hi.keep.same b (fun x=>x) h0
      . exact absurd e (kS.live b h0),fun b h0=>by
      rcases hs b with e | ⟨e,_,_⟩;rw [e];exact hi.keep.live b h0
      . exact absurd e (kS.live b h0)⟩
    refine ⟨rec,hl3,by rw [hst];simp,?_⟩
    rw [hpe];refine ⟨f2,a,cap,seen.map f,?_,hk3.upd (.inr hlH),?_,?_⟩;rw [List.length_map];exact hB3.same (upd_ne (Zvi hB3 hl3 fun _ _ _ h=>by cases h))
    rw [hke];exact (Zbxz hd hi.sub hi.nd hall).map f;rw [List.length_map];exact Zrd hO3 fun c=>Zil hl3 (fun _ _ _ h=>by cases h) _ c
  have hitl:itb≠l:=fun h=>by subst h;rw [hitn] at hLs;cases hLs
  have hitm:itb≠mb:=fun h=>by subst h;rw [hitn] at hms;cases hms
  have hits:itb≠sb:=fun h=>by subst h;rw [hBs] at hitn;cases hitn
  refine ⟨fun k _ Hc=>∃seen,KInv H sb l itb mb rec es ck f seen Hc∧seen.length+k=es.length,es.length,⟨[],⟨upd_eq,by rw [upd_ne hitm.symm];exact hms,by rw [upd_ne hitl.symm];exact hLs,⟨none,0,hBs.same (upd_ne hits.symm),Own.nil⟩,kS.new hitn,(fun _ h=>by cases h),List.nodup_nil⟩,by simp⟩,?_⟩
  rintro k u Hc ⟨seen,hi,hk⟩ gE;unfold Zbjz;refine NxG hi.it hi.mp hb (fun hall=>⟨false,[],rfl,ifF rfl (fin seen Hc hi hall)⟩) fun e he hns=>⟨true,[e.key,e.val],rfl,ifT rfl ?_⟩;have hsl:seen.length<es.length:=by
    have h1:=Zbwy (seen:=seen++[e]) (es:=es) (fun x hx=>by
      rcases List.mem_append.1 hx with h | h;exact hi.sub x h
      . rw [List.mem_singleton.1 h];exact he) (by
      rw [List.map_append,List.nodup_append];refine ⟨hi.nd,by simp,fun x hx y hy=>?_⟩
      simp only [List.map_cons,List.map_nil,List.mem_singleton] at hy;rintro rfl;subst hy;exact hns hx)
    simp only [List.length_append,List.length_cons,List.length_nil] at h1;omega
  have hdist: ∀x∈es,x.born=e.born->x=e:=fun x hx hxe=>by
    have: ∀{l:List MapEntry},(l.map (·.born)).Nodup->∀x∈l,∀y∈l,x.born=y.born->x=y:=by
      intro l;induction l with
      | nil=>intro _ x hx;cases hx
      | cons z r ih=>
        intro h x hx y hy e;simp only [List.map_cons,List.nodup_cons,List.mem_map,not_exists,not_and] at h;rcases List.mem_cons.1 hx with e1 | hx1<;>rcases List.mem_cons.1 hy with e2 | hy1;rw [e1,e2];rw [e1] at e;exact absurd e.symm (h.1 y hy1);rw [e2] at e;exact absurd e (h.1 x hx1);exact ih h.2 x hx1 y hy1 e
    exact this hd x hx e he hxe
  have hnew:Hc itb≠none:=by rw [hi.it];simp
  have hitc:itb≠mb:=hitm;have hit2:(Hc.upd itb (.mapIter (some mb) ck ⟨seen.map (·.born)++[e.born]⟩ ck)) itb=some (.mapIter (some mb) ck ⟨seen.map (·.born)++[e.born]⟩ ck):=upd_eq;have hnit: ∀b,b≠itb->(Hc.upd itb (.mapIter (some mb) ck ⟨seen.map (·.born)++[e.born]⟩ ck)) b=Hc b:=fun b hb=>upd_ne hb;have hkd:Keep Nil H (Hc.upd itb (.mapIter (some mb) ck ⟨seen.map (·.born)++[e.born]⟩ ck)):=hi.keep.upd (.inr (kS.free hitn));have hown: ∀{a cap},Sh.Own H Hc a seen.length cap 1 Zl (ivs (seen.map f))->Sh.Own H (Hc.upd itb (.mapIter (some mb) ck ⟨seen.map (·.born)++[e.born]⟩ ck)) a seen.length cap 1 Zl (ivs (seen.map f)):=fun h=>Zrd h fun c=>Zil hi.it (fun _ _ _ h=>by cases h) _ c
  generalize Hc.upd itb (.mapIter (some mb) ck ⟨seen.map (·.born)++[e.born]⟩ ck)=Hd at hit2 hnit hkd hown ⊢;refine EnG (seen:=seen.map (·.born)) hit2 (by rw [hnit mb hitm.symm];exact hi.mp) he hdist ?_
  refine ⟨e.key,e.val,rfl,?_⟩;have hld:Hd l=some (.loop rec):=by rw [hnit l hitl.symm];exact hi.lp
  refine ⟨rec,hld,hst,by rw [hps];rfl,?_⟩
  rw [hps,hra,hrb];refine hrnd [e.key] _ _ rfl ?_;unfold Zuz;have hx2:(Zhy [7] [e.key] ρ2) 2= .pointer (some ⟨sb,0,none⟩):=f2;have hx7:(Zhy [7] [e.key] ρ2) 7= .int .i64 (f e):=hks e he;have hA:=Zcfz (Zhy [7] [e.key] ρ2) sb (f e) Hd (fun v1 v2 H'=>v1= .pointer (some ⟨sb,0,none⟩)∧v2= .int .i64 (f e)∧H'=Hd) (fun _ _=>False);rw [put2 hx2 hx7] at hA;refine Ze.mono _ (fun ex ρ3 H3 hk3=>?_) _ _ (Eq.mp hA ⟨rfl,rfl,rfl⟩);obtain ⟨rfl,g2,g5,rfl⟩:=Zbhc hk3;refine ⟨rec,hld,hst,?_⟩;obtain ⟨a,cap,hB,hO⟩:=hi.row;have hBd:Blk H3 sb Zbt ⟨[.slice a seen.length cap]⟩:=hB.same (hnit sb hits.symm);have hOd:=hown hO;have hBb:Blk (H3.upd l (.loop { rec with state:= .busy })) sb Zbt ⟨[.slice a seen.length cap]⟩:=hBd.same (upd_ne (Zvi hBd hld fun _ _ _ h=>by cases h))
  have hOb:Sh.Own H (H3.upd l (.loop { rec with state:= .busy })) a seen.length cap 1 Zl (ivs (seen.map f)):=Zrd hOd fun c=>Zil hld (fun _ _ _ h=>by cases h) _ c
  have hkb:Keep Nil H (H3.upd l (.loop { rec with state:= .busy })):=hkd.upd (.inr hlH)
  have hlb:(H3.upd l (.loop { rec with state:= .busy })) l=some (.loop { rec with state:= .busy }):=upd_eq
  have hnb: ∀b,b≠l->(H3.upd l (.loop { rec with state:= .busy })) b=H3 b:=fun b hb=>upd_ne hb
  generalize H3.upd l (.loop { rec with state:= .busy })=Hb at hBb hOb hkb hlb hnb ⊢
  have hr:=Zcgb ρ3 sb (f e) Hb (fun H4=>Keep Nil H H4∧(∀b,Hb b≠none->b≠sb->(∀T c,¬Blk Hb b T c)->H4 b=Hb b)∧∃a' cap',Blk H4 sb Zbt ⟨[.slice a' (seen.length+1:Nat) cap']⟩∧Sh.Own H H4 a' (seen.length+1) cap' 1 Zl (ivs (seen.map f)++[.int .i64 (f e)])) (fun _ _=>False);rw [put2 g2 g5] at hr;refine Ze.mono _ (fun ex ρ4 H4 hk4=>?_) _ _ (Eq.mp hr (Zbsz hkb hsb hBb hOb (by omega) fun H4 q1 q2 q3=>⟨q1,q2,q3⟩))
  obtain ⟨rfl,q1,q2,a',cap',q3,q4⟩:=Zbhc hk4;have hl4:H4 l=some (.loop { rec with state:= .busy }):=by
    rw [q2 l (by rw [hlb];simp) (fun h=>by subst h;rw [hBb] at hlb;cases hlb) (Zil hlb fun _ _ _ h=>by cases h)];exact hlb
  have keepO: ∀b o,b≠l->H3 b=some o->(∀x y z,o≠ .cells x y z)->H4 b=some o:=fun b o hbl ho hn=>by
    have h1:Hb b=some o:=by rw [hnb b hbl];exact ho
    rw [q2 b (by rw [h1];simp) (fun h=>by subst h;exact Zil h1 hn _ _ hBb) (Zil h1 hn)];exact h1
  refine ⟨_,hl4,?_⟩;simp only [Zzm,Option.isNone,if_true];rw [again hst hpe];refine ⟨true,rfl,ifF rfl ⟨k - 1,by omega,seen++[e],?_,by simp only [List.length_append,List.length_cons,List.length_nil];omega⟩⟩
  refine ⟨?_,?_,upd_eq,⟨a',cap',?_,?_⟩,q1.upd (.inr hlH),fun x hx=>?_,?_⟩
  . rw [upd_ne hitl,keepO itb _ hitl hit2 fun _ _ _ h=>by cases h]
    simp
  rw [upd_ne (fun h=>by rw [h] at hms;rw [hms] at hLs;cases hLs),keepO mb _ (fun h=>by rw [h] at hms;rw [hms] at hLs;cases hLs) (by rw [hnit mb hitm.symm];exact hi.mp) fun _ _ _ h=>by cases h]
  . have:=q3.same (upd_ne (H:=H4) (o:= .loop rec) (Zvi q3 hl4 fun _ _ _ h=>by cases h))
    simpa using this
  . have:=Zrd (q:=l) (o:= .loop rec) q4 fun c=>Zil hl4 (fun _ _ _ h=>by cases h) _ c
    rw [Zbxw,show seen.map f++[f e]=(seen++[e]).map f by simp] at this
    simpa using this
  rcases List.mem_append.1 hx with h | h;exact hi.sub x h;rw [List.mem_singleton.1 h];exact he
  . rw [List.map_append,List.nodup_append];refine ⟨hi.nd,by simp,fun x hx y hy=>?_⟩
    simp only [List.map_cons,List.map_nil,List.mem_singleton] at hy;rintro rfl;subst hy;exact hns hx
end Go.Proofs.YtaljkjokbdpdoaaGreat
end
section
set_option maxRecDepth 100000
namespace Go.Proofs.YtaljkjokbdpdoaaGreat
open Go.Sh Go.Pc Go.Sort Go.RowKit
@[simp] theorem Zbvr (l:List Int):(ivs l).length=l.length:=by simp [ivs]
theorem Zcbg {H1 H0:Heap} {a:Option Addr} {cap:Nat} {zs:List Int} (hlen:zs.length <= 1000) (ho:Sh.Own H0 H1 a zs.length cap 1 Zl (ivs zs)):
      FnW Tryz.prog Zbet ⟨[.slice a zs.length cap]⟩ H1 fun v H'=>v= .tuple ⟨[]⟩∧Keep (fun x=>a=some ⟨x,0,none⟩) H1 H'∧∃ys:List Int,ys.Perm zs∧ys.Pairwise (· <= ·)∧Sh.Own H0 H' a zs.length cap 1 Zl (ivs ys):=by
  refine ⟨⟨_,Tryz.func111,by kernel_rfl,by kernel_rfl⟩,fun w hw=>?_⟩
  subst hw;rcases ho.2.2 with ⟨rfl,hz,rfl⟩ | ⟨m,rest,rfl,h0,hb,hr⟩;have hzs:zs= []:=List.eq_nil_of_length_eq_zero hz;subst hzs;refine (Tryz.slices_Sort_int_none none 0 w).mono ?_;rintro e w' ⟨rfl,rfl⟩;exact ⟨_,rfl,⟨rfl,Keep.refl _ _,[],List.Perm.refl _,List.Pairwise.nil,ho⟩,Rest.refl _⟩
  . have hcell:w.heap[m]? =some (.cells ⟨ivs zs++rest⟩ Zl (0,0)):=hb;have hlt:=(Array.getElem?_eq_some_iff.1 hcell).1;refine (Tryz.slices_Sort_int m 0 cap zs w ?_ hlt (by omega)).mono ?_
    . intro j hj;simp only [List.size_toArray] at hj;refine ⟨?_,?_⟩
      . show (hp w).cell ⟨m,0+j,none⟩=_;rw [hb.cell];simp only [List.getElem?_toArray,Nat.zero_add];rw [List.getElem?_append_left (by simpa using hj)]
        simp [ivs,hj]
      show (hp w).frozen ⟨m,0+j,none⟩=false;exact Zbtl hb
    . rintro e w' ⟨rfl,n,os,rfl⟩;have hms:(zs.mergeSort fun x y=>decide (x <= y)).length=zs.length:=List.length_mergeSort _
      have hheap: ∀x,(grow (Go.Sort.putRow (Value.int .i64) (Sort.ahead w n) m 0 (zs.mergeSort fun x y=>decide (x <= y)).toArray) os).heap[x]? =if x=m then some (.cells ⟨ivs (zs.mergeSort fun x y=>decide (x <= y))++rest⟩ Zl (0,0)) else if x<w.heap.size then w.heap[x]? else os[x - w.heap.size]? :=by
        intro x;have hsz:(Go.Sort.putRow (Value.int .i64) (Sort.ahead w n) m 0 (zs.mergeSort fun x y=>decide (x <= y)).toArray).heap.size=w.heap.size:=by show (w.heap.modify m _).size=_;simp
        show ((Go.Sort.putRow (Value.int .i64) (Sort.ahead w n) m 0 (zs.mergeSort fun x y=>decide (x <= y)).toArray).heap++os)[x]? =_;by_cases hx:x<w.heap.size
        . rw [Array.getElem?_append_left (by rw [hsz];exact hx)]
          show (w.heap.modify m _)[x]? =_;rw [Array.getElem?_modify];by_cases e:m=x
          . subst e;rw [if_pos rfl,if_pos rfl,hcell];simp only [Option.map_some,onCells];congr 2;apply Array.ext_getElem?
            intro j;simp only [putCells,Array.getElem?_mapIdx,List.getElem?_toArray,Nat.zero_le,true_and,Nat.zero_add,Nat.sub_zero,List.size_toArray,hms];by_cases hj:j<zs.length
            . rw [List.getElem?_append_left (by simpa using hj),List.getElem?_append_left (by simp [hms];exact hj)]
              simp only [ivs,List.getElem?_map];rw [List.getElem?_eq_getElem hj,List.getElem?_eq_getElem (by rw [hms];exact hj)]
              simp [hj,hms]
            . rw [List.getElem?_append_right (by simp;omega),List.getElem?_append_right (by simp [hms];omega)]
              simp only [Zbvr,hms];cases rest[j - zs.length]? with
              | none=>rfl
              | some v=>simp [hj]
          rw [if_neg e,if_neg (fun h=>e h.symm),if_pos hx]
        rw [Array.getElem?_append_right (by rw [hsz];omega),if_neg (by omega),if_neg hx,hsz]
      refine ⟨_,rfl,⟨rfl,⟨fun x hx hne=>?_,fun x hne=>?_⟩,(zs.mergeSort fun x y=>decide (x <= y)),List.mergeSort_perm zs (fun x y=>decide (x <= y)),?_,?_⟩,?_⟩
      . have hxm:x≠m:=fun e=>hx (by rw [e])
        have hxl:x<w.heap.size:=by refine Nat.lt_of_not_le fun h=>hne ?_;exact Array.getElem?_eq_none h
        show (grow _ os).heap[x]? =w.heap[x]?
        rw [hheap,if_neg hxm,if_pos hxl]
      . have hxl:x<w.heap.size:=by refine Nat.lt_of_not_le fun h=>hne ?_;exact Array.getElem?_eq_none h
        show (grow _ os).heap[x]? ≠none;rw [hheap];split;simp
        . first | (rw [if_pos hxl];exact hne) | exact hne
      . have h1:=List.pairwise_mergeSort (le:=fun x y:Int=>decide (x <= y)) (fun a b c h1 h2=>by simp only [decide_eq_true_eq] at*;omega) (fun a b=>by simp only [Bool.or_eq_true,decide_eq_true_eq];omega) zs
        exact h1.imp fun h=>of_decide_eq_true h
      . refine ⟨by simp [hms],ho.le,.inr ⟨m,rest,rfl,h0,?_,hr⟩⟩
        show (grow _ os).heap[m]? =_;rw [hheap,if_pos rfl]
      . refine ⟨rfl,rfl,rfl,fun b ds hb'=>?_,?_⟩
        . have hbm:b≠m:=fun e=>by subst e;rw [hcell] at hb';cases hb'
          have hbl:=(Array.getElem?_eq_some_iff.1 hb').1;rw [hheap,if_neg hbm,if_pos hbl];exact hb'
        . show w.heap.size <= ((Go.Sort.putRow (Value.int .i64) (Sort.ahead w n) m 0 (zs.mergeSort fun x y=>decide (x <= y)).toArray).heap++os).size;rw [Array.size_append];have:(Go.Sort.putRow (Value.int .i64) (Sort.ahead w n) m 0 (zs.mergeSort fun x y=>decide (x <= y)).toArray).heap.size=w.heap.size:=by show (w.heap.modify m _).size=_;simp
          omega
theorem Zbwi {H:Heap} {bx bo mb ck:Nat} {es:List MapEntry} {ks:List Int} {f:MapEntry->Int} (hbx:H.cell ⟨bx,bo,none⟩=some (.map (some mb))) (hm:H mb=some (.map ⟨es⟩ ck)) (hb: ∀e∈es,e.born<ck) (hd:(es.map (·.born)).Nodup)
    (hks: ∀e∈es,e.key= .int .i64 (f e)) (hke:ks=es.map f) (hl:es.length <= 1000):
    FnW Tryz.prog Zwn ⟨[.func (.func Zia) #[] ⟨[.pointer (some ⟨bx,bo,none⟩)]⟩]⟩ H fun v H'=>∃(a:Option Addr) (cap:Nat) (ys:List Int),v= .slice a ys.length cap∧Keep Nil H H'∧ys.Perm ks∧ys.Pairwise (· <= ·)∧Sh.Own H H' a ys.length cap 1 Zl (ivs ys):=by
  refine Zcgj Zia (.pointer (some ⟨bx,bo,none⟩)) ?_;unfold Zbmi;refine FnW.mono (show FnW Tryz.prog Zwo ⟨[.func (.func Zia) #[] #[.pointer (some ⟨bx,bo,none⟩)]]⟩ H (KeysOf H ks) from Zcgk Zia (.pointer (some ⟨bx,bo,none⟩)) ?_) fun v H1 hv=>?_
  . unfold Zbmj;refine FnW.mono (Zbwh hbx hm hb hd hks hke (by omega)) fun v H1 hv=>?_
    have hv2:=hv;obtain ⟨a,cap,xs,rfl,_⟩:=hv;exact ⟨a,_,cap,rfl,fun H2 hs=>hv2.shut hs⟩
  . obtain ⟨a,cap,xs,rfl,k1,hp,ho⟩:=hv;refine ⟨a,_,cap,rfl,?_⟩;have hxl:xs.length <= 1000:=by rw [hp.length_eq,hke,List.length_map];exact hl
    refine FnW.mono (Zcbg hxl ho) fun v H2 hv=>?_;obtain ⟨rfl,k2,ys,hq,hs,ho2⟩:=hv;refine ⟨rfl,fun H3 hsh=>?_⟩;have hyl:ys.length=xs.length:=hq.length_eq;refine ⟨a,cap,ys,by rw [hyl],Zk (k1.then k2 fun b hb=> .inr (ho.free hb)) hsh,hq.trans hp,hs,?_⟩
    rw [hyl];exact Zbn ho2 hsh
end Go.Proofs.YtaljkjokbdpdoaaGreat
end
section
set_option maxRecDepth 100000
namespace Go.Proofs.YtaljkjokbdpdoaaGreat
open Go.Sh Go.Pc Go.Conn
section
variable {H:Heap} {sb:Nat} {p:StP} {S:Stk}
def entI (e:MapEntry):Int:=match e.key with
  | .int _ x=>x
  | _=>0
theorem Zbvn (h:StRep H sb p S):FnW Tryz.prog Zoq ⟨[.pointer (some ⟨sb,0,none⟩)]⟩ H fun v H'=>∃(a:Option Addr) (c:Nat) (ys:List Int),v= .slice a ys.length c∧Keep Nil H H'∧ys.Pairwise (· < ·)∧ys.length <= 16∧Reads H' a ys.length (ivs ys):=by
  refine Zcez sb ?_;unfold Zblk;refine (Zqr h).mono ?_;rintro _ _ ⟨rfl,e⟩;rw [e];clear e;obtain ⟨es,ck,hm,he⟩:=h.m2;refine ⟨_,rfl,ifF rfl ⟨_,cellL h.blk 4 rfl,?_⟩⟩;refine Zchj _ ?_;unfold Zbni;refine newB fun q H1 hq b1 k1=>fun H2 hs=>⟨_,rfl,?_⟩;have k2:Keep Nil H H2:=Zk k1 hs;have c2:H2.cell ⟨q,0,none⟩=some (.map (some p.im)):=by rw [hs.cell];exact Zzo b1
  have m2:MapB kvI H2 p.im es ck:=Zbaz (hm.keep k1 fun h=>h) hs;have hne:es.length=S.l.length:=by have:=congrArg List.length he.pairs;simpa [← h.l] using this
  have hl:=h.ok.len;have hf:(es.map (entG kvI)).map entI=S.l.map fun e=>((e.id:Nat):Int):=by
    have h1:es.map (fun e=>e.1)=p.L.map fun x=>((x.e.id:Nat):Int):=by have:=congrArg (List.map Prod.fst) he.pairs;rw [List.map_map,List.map_map] at this;exact this
    rw [List.map_map,← h.l,List.map_map];exact h1
  refine (Zbwi (ks:=S.l.map fun e=>((e.id:Nat):Int)) (f:=entI) c2 m2 (fun e hx=>?_) ?_ (fun e hx=>?_) hf.symm (by rw [List.length_map];omega)).mono ?_
  obtain ⟨x,hx',rfl⟩:=List.mem_map.1 hx;exact he.born x hx';rw [List.map_map];exact he.nodup;obtain ⟨x,hx,rfl⟩:=List.mem_map.1 hx;rfl
  . rintro _ H3 ⟨a,c,ys,rfl,k3,hp,hso,ho⟩;have hys:ys.length=S.l.length:=by rw [hp.length_eq,List.length_map]
    have hr:=ho.reads;rw [Nat.mul_one] at hr;refine ⟨a,_,c,rfl,fun H4 hs4=>⟨a,c,ys,rfl,Zk (k2.trans k3) hs4,Zcbn hso (hp.nodup_iff.2 (Zbvm h.ok.ids)),by omega,Zbaf hr hs4⟩⟩
end
end Go.Proofs.YtaljkjokbdpdoaaGreat
end
