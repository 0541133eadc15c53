/-
 Gathered by a program of ours out of:AttTy SameH Same RefParts ItParts Grp Grp2 ItParts2.
-/
import Derived.Test.YthhcfdpoiganhaaGreatBA
import Derived.Test.YthhcfdpoiganhaaGreatED
set_option linter.all false
section
set_option maxRecDepth 100000
namespace Go.Proofs.YthhcfdpoiganhaaGreat
open Go.Sh
abbrev Seg:=Bool×List UInt32
abbrev Raw:=Int×List UInt8
abbrev Za:=Int×List Seg×UInt32×Bool×UInt32×Bool×UInt32×Bool×Bool×UInt32×UInt32×List UInt32×List Raw
abbrev Za.origin (a:Za):Int:=a.1
abbrev Za.path (a:Za):List Seg:=a.2.1
abbrev Za.next (a:Za):UInt32:=a.2.2.1
abbrev Za.hasMed (a:Za):Bool:=a.2.2.2.1
abbrev Za.med (a:Za):UInt32:=a.2.2.2.2.1
abbrev Za.hasLocal (a:Za):Bool:=a.2.2.2.2.2.1
abbrev Za.loc (a:Za):UInt32:=a.2.2.2.2.2.2.1
abbrev Za.atomic (a:Za):Bool:=a.2.2.2.2.2.2.2.1
abbrev Za.hasMaker (a:Za):Bool:=a.2.2.2.2.2.2.2.2.1
abbrev Za.makerAS (a:Za):UInt32:=a.2.2.2.2.2.2.2.2.2.1
abbrev Za.maker (a:Za):UInt32:=a.2.2.2.2.2.2.2.2.2.2.1
abbrev Za.comms (a:Za):List UInt32:=a.2.2.2.2.2.2.2.2.2.2.2.1
abbrev Za.others (a:Za):List Raw:=a.2.2.2.2.2.2.2.2.2.2.2.2
theorem mism {A:Type} [BEq A] [LawfulBEq A] {s t pre post:List A} {x y:A} (hs:s=pre++x::post) (ht:t[pre.length]? =some y) (h:x≠y):(s==t)=false:=by
 refine beq_eq_false_iff_ne.2 fun e=>h ?_;have h1:s[pre.length]? =some x:=by rw [hs];simp
 rw [e,ht] at h1;cases h1;rfl
theorem Zkq {A:Type} {t pre:List A} {x:A} (hP:pre=t.take pre.length) (ht:t[pre.length]? =some x):pre++[x]=t.take (pre++[x]).length:=by rw [Yb,List.length_singleton,YFa,ht,← hP];rfl
theorem Zkx {A:Type} [BEq A] [LawfulBEq A] {s t:List A} (hP:s=t.take s.length) (hl:s.length=t.length):(s==t)=true:=by rw [hl,Yra] at hP;exact beq_iff_eq.2 hP
theorem at_len {A:Type} {t:List A} {n:Nat} (h:n<t.length):t[((n:Nat):Int).toNat]? =some t[n]:=by rw [Int.toNat_natCast];exact Yc h
theorem ne32 (x y:UInt32):((x.toNat:Int) !=(y.toNat:Int))= !(x==y):=by
 by_cases h:x=y;subst h;simp
 ·have h1:(x.toNat:Int)≠y.toNat:=fun e=>h (YWa.1 (by omega))
  have h2:(x==y)=false:=beq_eq_false_iff_ne.2 h;rw [h2,bne_iff_ne.2 h1];rfl
theorem eq32 (x y:UInt32):((x.toNat:Int)==(y.toNat:Int))=(x==y):=by have:=ne32 x y;simp only [bne] at this;cases h1:((x.toNat:Int)==(y.toNat:Int))<;>cases h2:(x==y)<;>simp_all
theorem ne8 (x y:UInt8):((x.toNat:Int) !=(y.toNat:Int))= !(x==y):=by
 by_cases h:x=y;subst h;simp
 ·have h1:(x.toNat:Int)≠y.toNat:=fun e=>h (YSa.1 (by omega))
  have h2:(x==y)=false:=beq_eq_false_iff_ne.2 h;rw [h2,bne_iff_ne.2 h1];rfl
theorem Zmd {A:Type} [BEq A] [LawfulBEq A] {s t:List A} (h:((s.length:Int) !=(t.length:Int))=true):(s==t)=false:=by refine beq_eq_false_iff_ne.2 fun e=>?_;subst e;simp at h
theorem Zkz {A:Type} {s t:List A} (h:((s.length:Int) !=(t.length:Int))=false):s.length=t.length:=by simp at h;omega
def perh (i w s:Bool):Bool:=i==w&&(!i||s)
def Zej (a b:Za):Bool:=
 a.origin==b.origin&&(a.next==b.next&&(a.atomic==b.atomic&&(perh a.hasMed b.hasMed (a.med==b.med)&&(perh a.hasLocal b.hasLocal (a.loc==b.loc)&&
  (perh a.hasMaker b.hasMaker (a.makerAS==b.makerAS&&a.maker==b.maker)&&(a.path==b.path&&(a.comms==b.comms&&a.others==b.others)))))))
theorem Zddj (s t:List UInt8) (K:Bool->Prop) (hl:s.length <= 9223372036854775807) (h:K (s==t)):Zbej s t K:=by
 unfold Zbej;refine IfB.intro (fun h1=>of_eq h (Zmd h1)) (fun h1=>?_);have h1:=Zkz h1;refine Zl.over s (fun pre=>((pre.length:Int),())) (fun pre=>pre=t.take pre.length) rfl rfl (fun pre x post hp hn hP next hx=>?_) (fun hP next _=>?_)
 ·intro _;dsimp only [Zbpp];have hlt:pre.length<t.length:=by omega
  refine ifT (decide_eq_true (by omega)) ⟨by omega,AtN.of (Zbe hp) fun _=>⟨by omega,AtN.of (at_len hlt) fun _=>?_⟩⟩
  rw [ne8];refine IfB.intro (fun h2=>of_eq h (mism hp (Yc hlt) (by simpa using h2))) (fun h2=>of_eq (hx ?_) ?_)
  exact Zkq hP (by rw [Yc hlt];congr 1;simpa using (by simpa using h2:x=t[pre.length]).symm)
  ·rw [Zh (by omega) (by omega)];simp
 dsimp only [Zbpp];exact ifF (decide_eq_false (by omega)) (of_eq h (Zkx hP h1))
theorem Zbtu (s t:List UInt32) (K:Bool->Prop) (hl:s.length <= 9223372036854775807) (h:K (s==t)):Zts s t K:=by
 unfold Zts;refine IfB.intro (fun h1=>of_eq h (Zmd h1)) (fun h1=>?_);have h1:=Zkz h1;refine Zl.over s (fun pre=>((pre.length:Int),())) (fun pre=>pre=t.take pre.length) rfl rfl (fun pre x post hp hn hP next hx=>?_) (fun hP next _=>?_)
 ·intro _;dsimp only [Zbiw];have hlt:pre.length<t.length:=by omega
  refine ifT (decide_eq_true (by omega)) ⟨by omega,AtN.of (Zbe hp) fun _=>⟨by omega,AtN.of (at_len hlt) fun _=>?_⟩⟩
  rw [ne32];refine IfB.intro (fun h2=>of_eq h (mism hp (Yc hlt) (by simpa using h2))) (fun h2=>of_eq (hx ?_) ?_)
  exact Zkq hP (by rw [Yc hlt];congr 1;simpa using (by simpa using h2:x=t[pre.length]).symm)
  ·rw [Zh (by omega) (by omega)];simp
 dsimp only [Zbiw];exact ifF (decide_eq_false (by omega)) (of_eq h (Zkx hP h1))
theorem Zcwb (x y:Seg) (K:Bool->Prop) (hl:x.2.length <= 9223372036854775807) (h:K (x==y)):Zyc x y K:=by unfold Zyc;have e:(x==y)=(x.1==y.1&&x.2==y.2):=rfl;rw [e] at h;refine IfB.intro (fun h1 _=>Zbtu _ _ _ hl fun _=>?_) (fun h1=>?_);rw [h1] at h;exact h;rw [h1] at h;exact h
theorem Zdcd (x y:Raw) (K:Bool->Prop) (hl:x.2.length <= 9223372036854775807) (h:K (x==y)):Zbau x y K:=by unfold Zbau;have e:(x==y)=(x.1==y.1&&x.2==y.2):=rfl;rw [e] at h;refine IfB.intro (fun h1 _=>Zddj _ _ _ hl fun _=>?_) (fun h1=>?_);rw [h1] at h;exact h;rw [h1] at h;exact h
theorem Zcwg (s t:List Seg) (K:Bool->Prop) (hl:s.length <= 9223372036854775807) (hs: ∀x∈s,x.2.length <= 9223372036854775807) (h:K (s==t)):Zbbe s t K:=by
 unfold Zbbe;intro _;unfold Zbjf;refine IfB.intro (fun h1 _=>of_eq h (Zmd h1)) (fun h1=>?_);have h1:=Zkz h1;refine Zl.over s (fun pre=>((pre.length:Int),())) (fun pre=>pre=t.take pre.length) rfl rfl (fun pre x post hp hn hP next hx=>?_) (fun hP next _=>?_)
 ·intro _;dsimp only [Zbkh];have hlt:pre.length<t.length:=by omega
  refine ifT (decide_eq_true (by omega)) ⟨by omega,AtN.of (Zbe hp) fun _=>⟨by omega,AtN.of (at_len hlt) fun _ _=>Zcwb _ _ _ (hs x (by simp [hp])) fun _=>?_⟩⟩
  refine IfB.intro (fun h2 _=>of_eq h (mism hp (Yc hlt) (by simpa using h2))) (fun h2=>of_eq (hx ?_) ?_)
  exact Zkq hP (by rw [Yc hlt];congr 1;simpa using (by simpa using h2:x=t[pre.length]).symm)
  ·rw [Zh (by omega) (by omega)];simp
 dsimp only [Zbkh];exact ifF (decide_eq_false (by omega)) fun _=>of_eq h (Zkx hP h1)
theorem Zdph (s t:List Raw) (K:Bool->Prop) (hl:s.length <= 9223372036854775807) (hs: ∀x∈s,x.2.length <= 9223372036854775807) (h:K (s==t)):Zyu s t K:=by
 unfold Zyu;refine IfB.intro (fun h1=>of_eq h (Zmd h1)) (fun h1=>?_);have h1:=Zkz h1;refine Zl.over s (fun pre=>((pre.length:Int),())) (fun pre=>pre=t.take pre.length) rfl rfl (fun pre x post hp hn hP next hx=>?_) (fun hP next _=>?_)
 ·intro _;dsimp only [Zbkt];have hlt:pre.length<t.length:=by omega
  refine ifT (decide_eq_true (by omega)) ⟨by omega,AtN.of (Zbe hp) fun _=>⟨by omega,AtN.of (at_len hlt) fun _ _=>Zdcd _ _ _ (hs x (by simp [hp])) fun _=>?_⟩⟩
  refine IfB.intro (fun h2=>of_eq h (mism hp (Yc hlt) (by simpa using h2))) (fun h2=>of_eq (hx ?_) ?_)
  exact Zkq hP (by rw [Yc hlt];congr 1;simpa using (by simpa using h2:x=t[pre.length]).symm)
  ·rw [Zh (by omega) (by omega)];simp
 dsimp only [Zbkt];exact ifF (decide_eq_false (by omega)) (of_eq h (Zkx hP h1))
theorem Zbhv (i w s:Bool) (K:Bool->Prop) (h:K (perh i w s)):Zlr i w s K:=by unfold Zlr;cases i<;>cases w<;>exact h
theorem Zbyu (a b:Za) (j:Bool) (K:Bool->Prop) (hl:a.path.length <= 9223372036854775807) (hs: ∀x∈a.path,x.2.length <= 9223372036854775807) (hc:a.comms.length <= 9223372036854775807) (ho:a.others.length <= 9223372036854775807) (hr: ∀x∈a.others,x.2.length <= 9223372036854775807)
  (h:K (!j&&(a.path==b.path&&(a.comms==b.comms&&a.others==b.others)))):Zbaf a b j K:=by
 unfold Zbaf;refine IfB.intro (fun h1=>by rw [h1] at h;exact h) (fun h1 _=>Zcwg _ _ _ hl hs fun _=>?_)
 rw [h1] at h;simp only [YJa,YT] at h;refine IfB.intro (fun h2 _=>Zbtu _ _ _ hc fun _=>?_) (fun h2=>?_);rw [h2] at h;refine IfB.intro (fun h3 _=>Zdph _ _ _ ho hr fun _=>?_) (fun h3=>?_);rw [h3] at h;exact h;rw [h3] at h;exact h;rw [h2] at h;exact h
theorem Zckv (a b:Za) (j:Bool) (K:Bool->Prop) (hl:a.path.length <= 9223372036854775807) (hs: ∀x∈a.path,x.2.length <= 9223372036854775807) (hc:a.comms.length <= 9223372036854775807) (ho:a.others.length <= 9223372036854775807) (hr: ∀x∈a.others,x.2.length <= 9223372036854775807)
  (h:K (!j&&(perh a.hasMaker b.hasMaker (a.makerAS==b.makerAS&&a.maker==b.maker)&&(a.path==b.path&&(a.comms==b.comms&&a.others==b.others))))):Zbgc a b j K:=by
 unfold Zbgc;refine IfB.intro (fun h1=>by rw [h1] at h;exact h) (fun h1=>?_)
 rw [h1] at h;simp only [YJa,YT] at h;rw [eq32,eq32];refine IfB.intro (fun h2 _=>Zbhv _ _ _ _ fun _=>Zbyu a b _ K hl hs hc ho hr ?_) (fun h2 _=>Zbhv _ _ _ _ fun _=>Zbyu a b _ K hl hs hc ho hr ?_);have h2':(a.makerAS==b.makerAS)=true:=h2;rw [h2'] at h;rw [Yib];exact h;have h2':(a.makerAS==b.makerAS)=false:=h2;rw [h2'] at h;rw [Yib];exact h
theorem Zbph (a b:Za) (j:Bool) (K:Bool->Prop) (hl:a.path.length <= 9223372036854775807) (hs: ∀x∈a.path,x.2.length <= 9223372036854775807) (hc:a.comms.length <= 9223372036854775807) (ho:a.others.length <= 9223372036854775807) (hr: ∀x∈a.others,x.2.length <= 9223372036854775807)
  (h:K (!j&&(perh a.hasMed b.hasMed (a.med==b.med)&&(perh a.hasLocal b.hasLocal (a.loc==b.loc)&&(perh a.hasMaker b.hasMaker (a.makerAS==b.makerAS&&a.maker==b.maker)&&(a.path==b.path&&(a.comms==b.comms&&a.others==b.others))))))):Zrc a b j K:=by
 unfold Zrc;refine IfB.intro (fun h1=>by rw [h1] at h;exact h) (fun h1 _=>?_)
 rw [h1] at h;simp only [YJa,YT] at h;rw [eq32,eq32];refine Zbhv _ _ _ _ fun _=>IfB.intro (fun h2=>Zckv a b true K hl hs hc ho hr ?_) (fun h2 _=>Zbhv _ _ _ _ fun _=>Zckv a b _ K hl hs hc ho hr ?_)
 ·have h2':perh a.hasMed b.hasMed (a.med==b.med)=false:=by simpa using h2
  rw [h2'] at h;exact h
 ·have h2':perh a.hasMed b.hasMed (a.med==b.med)=true:=by simpa using h2
  rw [h2'] at h;rw [Yib];exact h
theorem Zdjx (a b:Za) (K:Bool->Prop) (hl:a.path.length <= 9223372036854775807) (hs: ∀x∈a.path,x.2.length <= 9223372036854775807) (hc:a.comms.length <= 9223372036854775807) (ho:a.others.length <= 9223372036854775807) (hr: ∀x∈a.others,x.2.length <= 9223372036854775807)
  (h:K (Zej a b)):Zwf a b K:=by
 unfold Zwf;unfold Zej at h;rw [ne32];refine IfB.intro (fun h1=>Zbph a b true K hl hs hc ho hr ?_) (fun h1=>IfB.intro (fun h2=>Zbph a b true K hl hs hc ho hr ?_) (fun h2=>Zbph a b _ K hl hs hc ho hr ?_))
 ·have h1':(a.origin==b.origin)=false:=by simpa [bne] using h1
  rw [h1'] at h;exact h
 ·have h1':(a.origin==b.origin)=true:=by simpa [bne] using h1
  have h2':(a.next==b.next)=false:=by simpa using h2
  rw [h1',h2'] at h;exact h
 ·have h1':(a.origin==b.origin)=true:=by simpa [bne] using h1
  have h2':(a.next==b.next)=true:=by simpa using h2
  rw [h1',h2'] at h;rw [Yib];exact h
def Zhu (p:UInt32×Int):Int:=IntKind.wrap .i64 (1+(IntKind.wrap .i64 (Int.tdiv (IntKind.wrap .i64 (p.2+7)) 8)))
abbrev ksPf:List Kd:=[Kd.int .u32,Kd.int .i64]
structure RowI (t:TypeId) (z:List Value) (sz by_:Nat):Prop where
 info: ∃i,Tryz.prog.info? t=some i∧i.size=sz∧i.bytes=by_
 zero:Zco Tryz.prog t=some z
 len:z.length=sz
theorem RowI.mk' {t:TypeId} {z:List Value} {sz by_:Nat} (h:(Tryz.prog.info? t).map (fun i=>(i.size,i.bytes))=some (sz,by_)) (hz:Zco Tryz.prog t=some z) (hl:z.length=sz):RowI t z sz by_:=by
 cases hi:Tryz.prog.info? t with
 | none=>rw [hi] at h;cases h
 | some i=>rw [hi] at h;simp only [Option.map_some,Option.some.injEq,Prod.mk.injEq] at h;exact ⟨⟨i,hi,h.1,h.2⟩,hz,hl⟩
theorem Zbku:RowI Zha [.int .u32 0,.int .i64 0] 2 16:=RowI.mk' (by kernel_rfl) (by kernel_rfl) rfl
theorem Zbym:Tryz.prog.underlying Zbdu=some (.slice Zha):=by kernel_rfl
theorem Zdko {H0 H H2:Heap} {Z:Nat->Prop} {ks:List Kd} {xs:List (Tp ks)} {v:Value} (hs:Shut H0 H H2) (hz0: ∀b,Z b->H0 b≠none) (k:Keep Nil H0 H) (h: ∃Zn:Nat->Prop,(∀b,Zn b->H0 b=none∧∃cc T r,H b=some (.cells cc T r))∧Zb (fun b=>Z b∨Zn b) H (.lst ks) xs v):
  Keep Nil H0 H2∧∃Zn:Nat->Prop,(∀b,Zn b->H0 b=none∧∃cc T r,H2 b=some (.cells cc T r))∧Zb (fun b=>Z b∨Zn b) H2 (.lst ks) xs v:=by
 obtain ⟨Zn,h1,h2⟩:=h;have old: ∀b,H0 b≠none->H2 b=H b:=fun b hb=>by rcases hs b with h | ⟨h,_⟩;exact h;exact absurd h hb
 have new: ∀b,Zn b->H2 b=H b:=fun b hb=>by rcases hs b with h | ⟨_,h,_⟩;exact h;obtain ⟨_,cc,T,r,hc⟩:=h1 b hb;rw [hc] at h;cases h
 refine ⟨⟨fun b hn hb=>(old b hb).trans (k.same b hn hb),fun b hb=>by rw [old b hb];exact k.live b hb⟩,Zn,fun b hb=>?_,?_⟩
 rw [new b hb];exact h1 b hb
 ·exact Zb.ext (fun b hb=>⟨hb,by
   rcases hb with hb | hb;exact old b (hz0 b hb)
   ·exact new b hb⟩) _ _ _ h2
def Zlb (most:Int):List (UInt32×Int)->List (UInt32×Int)->Int->List (List (UInt32×Int))
 | [],now,_=>match now with
  | []=>[]
  | _::_=>[now]
 | p::r,now,n=>if most<IntKind.wrap .i64 (n+Zhu p) then now::Zlb most r [p] (IntKind.wrap .i64 (0+Zhu p)) else Zlb most r (now++[p]) (IntKind.wrap .i64 (n+Zhu p))
abbrev ksCh:List Kd:=[Kd.int .u32,Kd.int .i64,Kd.int .i64,Kd.lst [Kd.bool,Kd.lst [Kd.int .u32]],Kd.int .u32,Kd.bool,Kd.int .u32,Kd.bool,Kd.int .u32,Kd.bool,Kd.bool,Kd.int .u32,Kd.int .u32,Kd.lst [Kd.int .u32],Kd.lst [Kd.int .i64,Kd.lst [Kd.int .u8]],Kd.bool]
abbrev Ch:=UInt32×Int×Int×List (Bool×List UInt32)×UInt32×Bool×UInt32×Bool×UInt32×Bool×Bool×UInt32×UInt32×List UInt32×List (Int×List UInt8)×Bool
def chP (c:Ch):UInt32×Int:=(c.1,c.2.1)
def Zbec (l:List Ch) (most:Int):List (List (UInt32×Int)×Unit):=(Zlb most (l.map chP) [] 0).map fun x=>(x,())
def Zee:It:=⟨[.lst ksPf],[.lst ksCh,.int .i64],fun c=>Zbec c.1 c.2.1,fun c=>List.length (show List Ch from c.1) <= 1000000000⟩
theorem Zc.step {H Ha:Heap} {b o:Nat} {v:Value} {T:TypeId} {c:Array Value} {K:Heap->Prop} (hb:Blk H b T c) (hk:Keep (fun x=>x=b) Ha H) (ho:o<c.size) (hv:Zv v=true)
  (h: ∀H',Blk H' b T (c.setIfInBounds o v)->Keep (fun x=>x=b) Ha H'->K H'):Zc H ⟨b,o,none⟩ v K:=
 Zc.blk hb ho hv (h _ Blk.upd_eq (hk.upd (.inl rfl)))
theorem Zcjv {H:Heap} {p:UInt32×Int} (hp:InR .i64 p.2):FnW Tryz.prog Zuz ⟨[.agg ⟨[.int .u32 (p.1.toNat:Int),.int .i64 p.2]⟩]⟩ H fun v H'=>Keep Nil H H'∧v= .int .i64 (Zhu p):=by
 refine (FnQ.run (x:=((p,()):PkTs Zbhc)) Zcop rfl rfl (Z:=fun _=>False) ?_ (fun _ h=>h.elim) (fun b hb=>by cases hb) trivial (K:=fun y=>y.1=Zhu p) ⟨by decide,rfl⟩).mono fun v H' hk=>?_
 simp only [pksA,pkA,SimL,SimV,and_true];refine ⟨_,rfl,?_⟩;simp only [lvT,lvE,SimL,SimV,and_true,hdT,tlT,toI,true_and];exact ⟨⟨by simp [loI],by have:=Yda p.1;simp only [hiI];omega⟩,hp⟩
 obtain ⟨hk,y,hy,_,hv⟩:=hk;have:=hv 0 (gZ fun _=>False);obtain ⟨y,u⟩:=y;simp only at hy;subst hy;simp only [pksA,pkA,outA,SimV] at this;exact ⟨hk,this.1⟩
theorem Zdkv {Z:Nat->Prop} {H:Heap} {l:List Ch} {a:Option Addr} {n c:Nat} (h:Zb Z H (.lst ksCh) l (.slice a n c)) {i:Nat} (hi:i<l.length):
  ∃b o,a=some ⟨b,o,none⟩∧Z b∧H b≠none∧InR .i64 (chP l[i]).2∧H.cell ⟨b,o+i*16,none⟩=some (.int .u32 ((chP l[i]).1.toNat:Int))∧H.cell ⟨b,o+i*16+1,none⟩=some (.int .i64 (chP l[i]).2)∧
   (∃x,H.cell ⟨b,o+i*16+2,none⟩=some (.int .i64 x))∧(∃x y z,H.cell ⟨b,o+i*16+3,none⟩=some (.slice x y z))∧(∃x,H.cell ⟨b,o+i*16+4,none⟩=some (.int .u32 x))∧(∃x,H.cell ⟨b,o+i*16+5,none⟩=some (.bool x))∧
   (∃x,H.cell ⟨b,o+i*16+6,none⟩=some (.int .u32 x))∧(∃x,H.cell ⟨b,o+i*16+7,none⟩=some (.bool x))∧(∃x,H.cell ⟨b,o+i*16+8,none⟩=some (.int .u32 x))∧(∃x,H.cell ⟨b,o+i*16+9,none⟩=some (.bool x))∧
   (∃x,H.cell ⟨b,o+i*16+10,none⟩=some (.bool x))∧(∃x,H.cell ⟨b,o+i*16+11,none⟩=some (.int .u32 x))∧(∃x,H.cell ⟨b,o+i*16+12,none⟩=some (.int .u32 x))∧(∃x y z,H.cell ⟨b,o+i*16+13,none⟩=some (.slice x y z))∧
   (∃x y z,H.cell ⟨b,o+i*16+14,none⟩=some (.slice x y z))∧(∃x,H.cell ⟨b,o+i*16+15,none⟩=some (.bool x)):=by
 simp only [Zb] at h;obtain ⟨a',n',c',e,hl,_,_,hat⟩:=h;cases e;have hl':l.length=n:=hl;obtain ⟨b,o,rfl,hz,cs,T,fr,hb,hc⟩:=hat (by omega)
 have:=hc i (l[i]) (Yc hi);simp only [Ze,Zb,and_true] at this;obtain ⟨⟨v0,h0,rfl,_⟩,⟨v1,h1,rfl,w1⟩,⟨v2,h2,rfl,_⟩,⟨v3,h3,a3,n3,c3,rfl,_⟩,⟨v4,h4,rfl,_⟩,⟨v5,h5,rfl⟩,⟨v6,h6,rfl,_⟩,⟨v7,h7,rfl⟩,⟨v8,h8,rfl,_⟩,⟨v9,h9,rfl⟩,⟨v10,h10,rfl⟩,⟨v11,h11,rfl,_⟩,⟨v12,h12,rfl,_⟩,⟨v13,h13,a13,n13,c13,rfl,_⟩,⟨v14,h14,a14,n14,c14,rfl,_⟩,⟨v15,h15,rfl⟩⟩:=this;have cell: ∀(j:Nat) (v:Value),cs[o+i*16+j]? =some v->H.cell ⟨b,o+i*16+j,none⟩=some v:=fun j v hv=>by simp only [Heap.cell,hb];exact hv
 exact ⟨b,o,rfl,hz,by rw [hb];simp,w1.inR,cell 0 _ h0,cell 1 _ h1,⟨_,cell 2 _ h2⟩,⟨_,_,_,cell 3 _ h3⟩,⟨_,cell 4 _ h4⟩,⟨_,cell 5 _ h5⟩,⟨_,cell 6 _ h6⟩,⟨_,cell 7 _ h7⟩,⟨_,cell 8 _ h8⟩,⟨_,cell 9 _ h9⟩,⟨_,cell 10 _ h10⟩,⟨_,cell 11 _ h11⟩,⟨_,cell 12 _ h12⟩,⟨_,_,_,cell 13 _ h13⟩,⟨_,_,_,cell 14 _ h14⟩,⟨_,cell 15 _ h15⟩⟩
structure PInv {l0:Nat} (Hs:Heap) (Z:Nat->Prop) (b1 b2:Nat) (C:Cons Tryz.prog l0 Zee.ps Hs [b1,b2]) (rest:List (List (UInt32×Int)×Unit)) (ns:List (UInt32×Int)) (a:Option Addr) (cap:Nat) (H:Heap) (Z' W':Nat->Prop) (ys:List Value):Prop where
 own:Go.Sh.Own Hs H a ns.length cap 2 Zha ys
 cap:cap <= 9223372036854775807
 dat: ∀t p,ns[t]? =some p->ys[t*2]? =some (.int .u32 (p.1.toNat:Int))∧ys[t*2+1]? =some (.int .i64 p.2)∧InR .i64 p.2
 J:C.J Z' W' rest H
 e1:H b1=Hs b1
 e2:H b2=Hs b2
 z: ∀b,Z b->Z' b∧H b=Hs b
 w1: ¬W' b1
 w2: ¬W' b2
 oW: ∀b,a=some ⟨b,0,none⟩->¬W' b∧¬Z' b
 lv: ∀b,Z' b∨W' b->H b≠none
 kl: ∀b,Hs b≠none->H b≠none
theorem PInv.step {l0:Nat} {Hs:Heap} {Z:Nat->Prop} {b1 b2:Nat} {C:Cons Tryz.prog l0 Zee.ps Hs [b1,b2]} {rest:List (List (UInt32×Int)×Unit)} {ns ns':List (UInt32×Int)} {a a':Option Addr} {cap cap':Nat} {H H':Heap} {Z' W':Nat->Prop} {ys ys':List Value}
  (v:PInv Hs Z b1 b2 C rest ns a cap H Z' W' ys) (hz0: ∀b,Z b->Hs b≠none) (hb1:Hs b1≠none) (hb2:Hs b2≠none) (k:Keep (fun b=>a=some ⟨b,0,none⟩) H H')
  (ho:Go.Sh.Own Hs H' a' ns'.length cap' 2 Zha ys') (hc:cap' <= 9223372036854775807) (hd: ∀t p,ns'[t]? =some p->ys'[t*2]? =some (.int .u32 (p.1.toNat:Int))∧ys'[t*2+1]? =some (.int .i64 p.2)∧InR .i64 p.2)
  (ha: ∀b,a'=some ⟨b,0,none⟩->a=some ⟨b,0,none⟩∨H b=none):PInv Hs Z b1 b2 C rest ns' a' cap' H' Z' W' ys':=by
 have free: ∀b,a=some ⟨b,0,none⟩->Hs b=none:=fun b hb=>v.own.free hb;have same: ∀b,H b≠none->Hs b≠none->H' b=H b:=fun b h1 h2=>k.same b (fun h=>h2 (free b h)) h1;refine ⟨ho,hc,hd,C.stJ v.J (fun b hb hw=>k.same b (fun h=>?_) hb) k.live,?_,?_,fun b hb=>⟨(v.z b hb).1,?_⟩,v.w1,v.w2,fun b hb=>?_,fun b hb=>k.live b (v.lv b hb),fun b hb=>k.live b (v.kl b hb)⟩;obtain ⟨q1,q2⟩:=v.oW b h;rcases hw with h1 | h1 | ⟨h1,_⟩;exact q2 h1;exact q1 h1;exact h1 (free b h);exact (same b1 (by rw [v.e1];exact hb1) hb1).trans v.e1
 exact (same b2 (by rw [v.e2];exact hb2) hb2).trans v.e2
 exact (same b (by rw [(v.z b hb).2];exact hz0 b hb) (hz0 b hb)).trans (v.z b hb).2
 rcases ha b hb with h | h;exact v.oW b h;exact ⟨fun hw=>v.lv b (.inr hw) h,fun hz=>v.lv b (.inl hz) h⟩
theorem PInv.quiet {l0:Nat} {Hs:Heap} {Z:Nat->Prop} {b1 b2:Nat} {C:Cons Tryz.prog l0 Zee.ps Hs [b1,b2]} {rest:List (List (UInt32×Int)×Unit)} {ns:List (UInt32×Int)} {a:Option Addr} {cap:Nat} {H H':Heap} {Z' W':Nat->Prop} {ys:List Value}
  (v:PInv Hs Z b1 b2 C rest ns a cap H Z' W' ys) (hz0: ∀b,Z b->Hs b≠none) (hb1:Hs b1≠none) (hb2:Hs b2≠none) (k:Keep Nil H H'):PInv Hs Z b1 b2 C rest ns a cap H' Z' W' ys:=
 v.step hz0 hb1 hb2 (k.mono fun b h=>h.elim) (v.own.keep k fun b _ h=>h) v.cap v.dat fun b h=> .inl h
theorem PInv.yield {l0:Nat} {Hs:Heap} {Z:Nat->Prop} {b1 b2:Nat} {C:Cons Tryz.prog l0 Zee.ps Hs [b1,b2]} {rest:List (List (UInt32×Int)×Unit)} {ns:List (UInt32×Int)} {a:Option Addr} {cap:Nat} {H:Heap} {Z' W':Nat->Prop} {ys:List Value} {K:Value->Heap->Prop}
  (v:PInv Hs Z b1 b2 C ((ns,())::rest) ns a cap H Z' W' ys) (hb1:Hs b1≠none) (hb2:Hs b2≠none)
  (hT: ∀H' Z'' W'',PInv Hs Z b1 b2 C rest [] none 0 H' Z'' W'' []->(∀b,H b≠none->¬W' b->H' b=H b)->K (.bool true) H') (hF: ∀H' Z'' W'',C.X Z'' W'' H'->K (.bool false) H'):Zds Tryz.prog l0 [.slice a ns.length cap] H K:=by
 have l1:H b1≠none:=by rw [v.e1];exact hb1
 have l2:H b2≠none:=by rw [v.e2];exact hb2
 refine Zds.mono (fun w H' hv=>?_) (C.round (Zx:=fun b=>a=some ⟨b,0,none⟩) (x:=((ns,()):PkTs Zee.ps)) v.J ?_ (fun b hb=> .inr ⟨(v.oW b hb).1,?_,.inr (v.own.free hb)⟩))
 ·obtain ⟨k1,k2,Z'',W'',k3,k4,k5,k6,k7,hk⟩:=hv;rcases hk with ⟨rfl,hk⟩ | ⟨rfl,hk⟩
  ·refine hT H' Z'' W'' ⟨Go.Sh.Own.nil,by omega,fun t p h=>by simp at h,hk,(k1 b1 l1 v.w1).trans v.e1,(k1 b2 l2 v.w2).trans v.e2,fun b hb=>?_,fun h=>?_,fun h=>?_,fun b h=>(by cases h),k6,fun b hb=>k2 b (v.kl b hb)⟩ k1
   obtain ⟨q1,q2⟩:=k3 b (.inl (v.z b hb).1);exact ⟨q1,q2.trans (v.z b hb).2⟩;rcases k4 b1 h with h | h;exact v.w1 h;exact l1 h;rcases k4 b2 h with h | h;exact v.w2 h;exact l2 h
  exact hF H' Z'' W'' hk
 ·show Zjg _ H [.lst ksPf] (ns,()) _;simp only [Zjg,pksA,pkA,SimL,SimV,and_true];simp only [Zb];refine ⟨_,_,_,rfl,rfl,v.own.le,v.cap,fun h0=>?_⟩;obtain ⟨m,hm⟩:=v.own.addr h0;obtain ⟨r,hB,_⟩:=v.own.blk hm;refine ⟨m,0,hm,hm,_,_,_,hB,fun t p ht=>?_⟩;obtain ⟨d1,d2,d3⟩:=v.dat t p ht;have hyl:=v.own.len;have htl:t<ns.length:=by rcases Ys t ns.length with h | h;exact h;have ht':ns[t]? =some p:=ht;rw [Yf h] at ht';cases ht'
  simp only [Ze,Zb,and_true,List.length_cons,List.length_nil,Yx,Nat.reduceAdd];refine ⟨⟨_,?_,rfl,trivial⟩,⟨_,?_,rfl,WfI.of d3⟩⟩
  ·simp only [YE];rw [Yd (by rw [hyl];omega)];exact d1
  ·simp only [YE];rw [Yd (by rw [hyl];omega)];exact d2
 obtain ⟨r,hB,_⟩:=v.own.blk hb;exact ⟨_,_,_,hB⟩
theorem PInv.yield' {l0:Nat} {Hs:Heap} {Z:Nat->Prop} {b1 b2:Nat} {C:Cons Tryz.prog l0 Zee.ps Hs [b1,b2]} {rest:List (List (UInt32×Int)×Unit)} {ns:List (UInt32×Int)} {a:Option Addr} {cap:Nat} {H:Heap} {Z' W':Nat->Prop} {ys:List Value}
  (v:PInv Hs Z b1 b2 C ((ns,())::rest) ns a cap H Z' W' ys) (hb1:Hs b1≠none) (hb2:Hs b2≠none):
  Zds Tryz.prog l0 [.slice a ns.length cap] H fun w H'=>(w= .bool true∧∃Z'' W'',PInv Hs Z b1 b2 C rest [] none 0 H' Z'' W'' []∧∀b,H b≠none->¬W' b->H' b=H b)∨(w= .bool false∧∃Z'' W'',C.X Z'' W'' H'):=
 v.yield hb1 hb2 (fun H' Z'' W'' v' same=> .inl ⟨rfl,Z'',W'',v',same⟩) (fun H' Z'' W'' hx=> .inr ⟨rfl,Z'',W'',hx⟩)
theorem Zbwu {l0:Nat} {Hs:Heap} {Z:Nat->Prop} {b1 b2 c7:Nat} {C:Cons Tryz.prog l0 Zee.ps Hs [b1,b2]} {rest:List (List (UInt32×Int)×Unit)} {ns:List (UInt32×Int)} {a:Option Addr} {cap:Nat} {H:Heap} {Z' W':Nat->Prop} {ys:List Value}
  {la:Option Addr} {ln lc:Nat} {i:Nat} {n:Int} {p:UInt32×Int} {next:((Option Addr×Nat×Nat)×Int×Int×Unit)->Heap->Prop} {R:Value->Heap->Prop}
  (v:PInv Hs Z b1 b2 C rest ns a cap H Z' W' ys) (hz0: ∀b,Z b->Hs b≠none) (hb1:Hs b1≠none) (hb2:Hs b2≠none) (hp:InR .i64 p.2) (hnl:ns.length <= 2000000000) {T7:TypeId} {arr:Array Value} (hc7:Blk H c7 T7 arr) (ha0:arr[0]? =some (.int .u32 (p.1.toNat:Int))) (ha1:arr[1]? =some (.int .i64 p.2)) (hac:a≠some ⟨c7,0,none⟩)
  (hn: ∀a' cap' ys' H',PInv Hs Z b1 b2 C rest (ns++[p]) a' cap' H' Z' W' ys'->next ((a',ns.length+1,cap'),(IntKind.wrap .i64 (n+Zhu p),(IntKind.wrap .i64 ((i:Int)+1),()))) H'):
  Zbhm l0 b2 c7 la ln lc i next a ns.length cap n H R:=by
 unfold Zbhm;refine ⟨_,(hc7.cell 0).trans ha0,_,(hc7.cell 1).trans ha1,fun nb hnb=>?_⟩;have kn:Keep Nil H (H.upd nb (.cells ⟨[.int .u32 (p.1.toNat:Int),.int .i64 p.2]⟩ Zha (0,0))):=(Keep.refl _ _).new hnb;have hbn:Blk (H.upd nb (.cells ⟨[.int .u32 (p.1.toNat:Int),.int .i64 p.2]⟩ Zha (0,0))) nb Zha ⟨[.int .u32 (p.1.toNat:Int),.int .i64 p.2]⟩:=Blk.upd_eq;generalize H.upd nb (.cells ⟨[.int .u32 (p.1.toNat:Int),.int .i64 p.2]⟩ Zha (0,0))=H7 at kn hbn ⊢;have v7:=v.quiet hz0 hb1 hb2 kn;have hc77:=kn.blk hc7 (fun h=>h);obtain ⟨it,hi1,hi2,hi3⟩:=Zbku.info;refine Zra (k:=1) (S:=fun _=>True) (new:=[.int .u32 (p.1.toNat:Int),.int .i64 p.2]) Zbym Zbym hi1 hi2 hi3 (by decide) Zbku.zero Zbku.len v7.own ⟨fun b h=>absurd trivial h,v7.kl⟩ (Reads.blk hbn rfl fun j hj=>by simp) (by simp [Zv]) (by omega) fun a' cap' H8 hcap ho hf kk _=>?_
 refine ⟨a',ns.length+1,cap',rfl,?_⟩;have hyl:=v7.own.len
 have v8:PInv Hs Z b1 b2 C rest (ns++[p]) a' cap' H8 Z' W' (ys++[.int .u32 (p.1.toNat:Int),.int .i64 p.2]):=v7.step hz0 hb1 hb2 kk (by simpa using ho) (hcap v.cap) (fun t q ht=>by
  by_cases hlt:t<ns.length;rw [Yd hlt] at ht;obtain ⟨d1,d2,d3⟩:=v.dat t q ht;exact ⟨by rw [Yd (by omega)];exact d1,by rw [Yd (by omega)];exact d2,d3⟩
  ·have hte:t=ns.length:=by
    rcases Ys t (ns.length+1) with h | h;omega
    ·rw [Yf (by simp;omega)] at ht;cases ht
   subst hte;rw [Yg (Yh _),YUa] at ht;cases ht;refine ⟨?_,?_,hp⟩
   ·rw [Yg (by omega),hyl,YUa];rfl
   ·rw [Yg (by omega),hyl,show ns.length*2+1 - ns.length*2=1 by omega];rfl) hf
 have hc8:=kk.blk hc77 hac;refine ⟨_,(hc8.cell 0).trans ha0,_,(hc8.cell 1).trans ha1,(Zcjv hp).mono fun w H9 hk=>?_⟩;obtain ⟨k9,rfl⟩:=hk;exact ⟨_,rfl,hn a' cap' _ H9 (v8.quiet hz0 hb1 hb2 k9)⟩
def Zin (most:Int) (l:List Ch) (ns:List (UInt32×Int)) (n:Int):List (List (UInt32×Int)×Unit):=(Zlb most (l.map chP) ns n).map fun x=>(x,())
theorem Zdop {most:Int} {c:Ch} {l:List Ch} {ns:List (UInt32×Int)} {n:Int}:Zin most (c::l) ns n=if most<IntKind.wrap .i64 (n+Zhu (chP c)) then (ns,())::Zin most l [chP c] (IntKind.wrap .i64 (0+Zhu (chP c))) else Zin most l (ns++[chP c]) (IntKind.wrap .i64 (n+Zhu (chP c))):=by unfold Zin;simp only [YG,Zlb];split<;>rfl
structure W16 where
 (x0:Int)
 (x1:Int)
 (x2:Int)
 (s3:Option Addr) (m3 n3:Nat)
 (x4:Int)
 (b5:Bool)
 (x6:Int)
 (b7:Bool)
 (x8:Int)
 (b9:Bool)
 (b10:Bool)
 (x11:Int)
 (x12:Int)
 (s13:Option Addr) (m13 n13:Nat)
 (s14:Option Addr) (m14 n14:Nat)
 (b15:Bool)
def W16.vals (w:W16):List Value:=[(Value.int .u32 w.x0),(Value.int .i64 w.x1),(Value.int .i64 w.x2),(Value.slice w.s3 w.m3 w.n3),(Value.int .u32 w.x4),(Value.bool w.b5),(Value.int .u32 w.x6),(Value.bool w.b7),(Value.int .u32 w.x8),(Value.bool w.b9),(Value.bool w.b10),(Value.int .u32 w.x11),(Value.int .u32 w.x12),(Value.slice w.s13 w.m13 w.n13),(Value.slice w.s14 w.m14 w.n14),(Value.bool w.b15)]
theorem W16.len (w:W16):w.vals.length=16:=rfl
theorem W16.plain (w:W16): ∀v∈w.vals,Zv v=true:=by simp [W16.vals,Zv]
theorem rd16 {H:Heap} {b o:Nat} {w:W16} {P:Int->Int->Int->Option Addr->Nat->Nat->Int->Bool->Int->Bool->Int->Bool->Bool->Int->Int->Option Addr->Nat->Nat->Option Addr->Nat->Nat->Bool->Prop} (hc: ∀j v,w.vals[j]? =some v->H.cell ⟨b,o+j,none⟩=some v) (h:P w.x0 w.x1 w.x2 w.s3 w.m3 w.n3 w.x4 w.b5 w.x6 w.b7 w.x8 w.b9 w.b10 w.x11 w.x12 w.s13 w.m13 w.n13 w.s14 w.m14 w.n14 w.b15):
  ∃y0:Int,H.cell ⟨b,o,none⟩=some (Value.int .u32 y0)∧∃y1:Int,H.cell ⟨b,o+1,none⟩=some (Value.int .i64 y1)∧∃y2:Int,H.cell ⟨b,o+2,none⟩=some (Value.int .i64 y2)∧∃(a3:Option Addr) (p3 q3:Nat),H.cell ⟨b,o+3,none⟩=some (Value.slice a3 p3 q3)∧∃y4:Int,H.cell ⟨b,o+4,none⟩=some (Value.int .u32 y4)∧∃y5:Bool,H.cell ⟨b,o+5,none⟩=some (Value.bool y5)∧∃y6:Int,H.cell ⟨b,o+6,none⟩=some (Value.int .u32 y6)∧∃y7:Bool,H.cell ⟨b,o+7,none⟩=some (Value.bool y7)∧∃y8:Int,H.cell ⟨b,o+8,none⟩=some (Value.int .u32 y8)∧∃y9:Bool,H.cell ⟨b,o+9,none⟩=some (Value.bool y9)∧∃y10:Bool,H.cell ⟨b,o+10,none⟩=some (Value.bool y10)∧∃y11:Int,H.cell ⟨b,o+11,none⟩=some (Value.int .u32 y11)∧∃y12:Int,H.cell ⟨b,o+12,none⟩=some (Value.int .u32 y12)∧∃(a13:Option Addr) (p13 q13:Nat),H.cell ⟨b,o+13,none⟩=some (Value.slice a13 p13 q13)∧∃(a14:Option Addr) (p14 q14:Nat),H.cell ⟨b,o+14,none⟩=some (Value.slice a14 p14 q14)∧∃y15:Bool,H.cell ⟨b,o+15,none⟩=some (Value.bool y15)∧P y0 y1 y2 a3 p3 q3 y4 y5 y6 y7 y8 y9 y10 y11 y12 a13 p13 q13 a14 p14 q14 y15:=
 ⟨_,hc 0 _ rfl,_,hc 1 _ rfl,_,hc 2 _ rfl,_,_,_,hc 3 _ rfl,_,hc 4 _ rfl,_,hc 5 _ rfl,_,hc 6 _ rfl,_,hc 7 _ rfl,_,hc 8 _ rfl,_,hc 9 _ rfl,_,hc 10 _ rfl,_,hc 11 _ rfl,_,hc 12 _ rfl,_,_,_,hc 13 _ rfl,_,_,_,hc 14 _ rfl,_,hc 15 _ rfl,h⟩
theorem Zbjb {H:Heap} {b:Nat} {w:W16} {P:Int->Int->Int->Option Addr->Nat->Nat->Int->Bool->Int->Bool->Int->Bool->Bool->Int->Int->Option Addr->Nat->Nat->Option Addr->Nat->Nat->Bool->Prop} (hc: ∀j v,w.vals[j]? =some v->H.cell ⟨b,j,none⟩=some v) (h:P w.x0 w.x1 w.x2 w.s3 w.m3 w.n3 w.x4 w.b5 w.x6 w.b7 w.x8 w.b9 w.b10 w.x11 w.x12 w.s13 w.m13 w.n13 w.s14 w.m14 w.n14 w.b15):
  ∃y0:Int,H.cell ⟨b,0,none⟩=some (Value.int .u32 y0)∧∃y1:Int,H.cell ⟨b,1,none⟩=some (Value.int .i64 y1)∧∃y2:Int,H.cell ⟨b,2,none⟩=some (Value.int .i64 y2)∧∃(a3:Option Addr) (p3 q3:Nat),H.cell ⟨b,3,none⟩=some (Value.slice a3 p3 q3)∧∃y4:Int,H.cell ⟨b,4,none⟩=some (Value.int .u32 y4)∧∃y5:Bool,H.cell ⟨b,5,none⟩=some (Value.bool y5)∧∃y6:Int,H.cell ⟨b,6,none⟩=some (Value.int .u32 y6)∧∃y7:Bool,H.cell ⟨b,7,none⟩=some (Value.bool y7)∧∃y8:Int,H.cell ⟨b,8,none⟩=some (Value.int .u32 y8)∧∃y9:Bool,H.cell ⟨b,9,none⟩=some (Value.bool y9)∧∃y10:Bool,H.cell ⟨b,10,none⟩=some (Value.bool y10)∧∃y11:Int,H.cell ⟨b,11,none⟩=some (Value.int .u32 y11)∧∃y12:Int,H.cell ⟨b,12,none⟩=some (Value.int .u32 y12)∧∃(a13:Option Addr) (p13 q13:Nat),H.cell ⟨b,13,none⟩=some (Value.slice a13 p13 q13)∧∃(a14:Option Addr) (p14 q14:Nat),H.cell ⟨b,14,none⟩=some (Value.slice a14 p14 q14)∧∃y15:Bool,H.cell ⟨b,15,none⟩=some (Value.bool y15)∧P y0 y1 y2 a3 p3 q3 y4 y5 y6 y7 y8 y9 y10 y11 y12 a13 p13 q13 a14 p14 q14 y15:=
 ⟨_,hc 0 _ rfl,_,hc 1 _ rfl,_,hc 2 _ rfl,_,_,_,hc 3 _ rfl,_,hc 4 _ rfl,_,hc 5 _ rfl,_,hc 6 _ rfl,_,hc 7 _ rfl,_,hc 8 _ rfl,_,hc 9 _ rfl,_,hc 10 _ rfl,_,hc 11 _ rfl,_,hc 12 _ rfl,_,_,_,hc 13 _ rfl,_,_,_,hc 14 _ rfl,_,hc 15 _ rfl,h⟩
theorem Zcic {Z:Nat->Prop} {H:Heap} {c:Ch} {f:Nat->Option Value} (h:Ze Z H ksCh c f): ∃w:W16,(∀j,j<16->f j=w.vals[j]?)∧Ze Z H ksCh c (fun j=>w.vals[j]?):=by
 have hall:=h;simp only [Ze,Zb,and_true] at h;obtain ⟨⟨v0,h0,rfl,_⟩,⟨v1,h1,rfl,_⟩,⟨v2,h2,rfl,_⟩,⟨v3,h3,a3,n3,c3,rfl,_⟩,⟨v4,h4,rfl,_⟩,⟨v5,h5,rfl⟩,⟨v6,h6,rfl,_⟩,⟨v7,h7,rfl⟩,⟨v8,h8,rfl,_⟩,⟨v9,h9,rfl⟩,⟨v10,h10,rfl⟩,⟨v11,h11,rfl,_⟩,⟨v12,h12,rfl,_⟩,⟨v13,h13,a13,n13,c13,rfl,_⟩,⟨v14,h14,a14,n14,c14,rfl,_⟩,⟨v15,h15,rfl⟩⟩:=h;have g0: ∃n,f 0=some (.int .u32 n):=⟨_,h0⟩;obtain ⟨x0,g0⟩:=g0;have g1: ∃n,f 1=some (.int .i64 n):=⟨_,h1⟩;obtain ⟨x1,g1⟩:=g1;have g2: ∃n,f 2=some (.int .i64 n):=⟨_,h2⟩;obtain ⟨x2,g2⟩:=g2;have g4: ∃n,f 4=some (.int .u32 n):=⟨_,h4⟩;obtain ⟨x4,g4⟩:=g4;have g5: ∃n,f 5=some (.bool n):=⟨_,h5⟩;obtain ⟨x5,g5⟩:=g5;have g6: ∃n,f 6=some (.int .u32 n):=⟨_,h6⟩;obtain ⟨x6,g6⟩:=g6;have g7: ∃n,f 7=some (.bool n):=⟨_,h7⟩;obtain ⟨x7,g7⟩:=g7;have g8: ∃n,f 8=some (.int .u32 n):=⟨_,h8⟩;obtain ⟨x8,g8⟩:=g8;have g9: ∃n,f 9=some (.bool n):=⟨_,h9⟩;obtain ⟨x9,g9⟩:=g9;have g10: ∃n,f 10=some (.bool n):=⟨_,h10⟩;obtain ⟨x10,g10⟩:=g10;have g11: ∃n,f 11=some (.int .u32 n):=⟨_,h11⟩;obtain ⟨x11,g11⟩:=g11;have g12: ∃n,f 12=some (.int .u32 n):=⟨_,h12⟩;obtain ⟨x12,g12⟩:=g12;have g15: ∃n,f 15=some (.bool n):=⟨_,h15⟩;obtain ⟨x15,g15⟩:=g15;have hw: ∀j,j<16->f j=(W16.vals ⟨x0,x1,x2,a3,n3,c3,x4,x5,x6,x7,x8,x9,x10,x11,x12,a13,n13,c13,a14,n14,c14,x15⟩)[j]? :=fun j hj=>by
  match j,hj with
  | 0,_=>exact g0
  | 1,_=>exact g1
  | 2,_=>exact g2
  | 3,_=>exact h3
  | 4,_=>exact g4
  | 5,_=>exact g5
  | 6,_=>exact g6
  | 7,_=>exact g7
  | 8,_=>exact g8
  | 9,_=>exact g9
  | 10,_=>exact g10
  | 11,_=>exact g11
  | 12,_=>exact g12
  | 13,_=>exact h13
  | 14,_=>exact h14
  | 15,_=>exact g15
  | n+16,h=>exact absurd h (by omega)
 exact ⟨_,hw,Ze.congr (fun j hj=>(hw j hj).symm) hall⟩
def Zof (H:Heap) (cb:Nat) (vs:List Value) (k:Nat):Prop:=∃T arr,Blk H cb T arr∧arr.size=16∧∀j,j<k->arr[j]? =vs[j]?
theorem Zof.st {H Ha:Heap} {cb o:Nat} {vs:List Value} {v:Value} {K:Heap->Prop} (h:Zof H cb vs o) (k:Keep (fun b=>b=cb) Ha H) (ho:o<16) (hv:vs[o]? =some v) (hp:Zv v=true)
  (hn: ∀H',Zof H' cb vs (o+1)->Keep (fun b=>b=cb) Ha H'->K H'):Zc H ⟨cb,o,none⟩ v K:=by
 obtain ⟨T,arr,hb,hs,h0⟩:=h;refine Zc.step hb k (by omega) hp fun H' hb' hk'=>hn H' ⟨T,_,hb',by simpa using hs,fun j hj=>?_⟩ hk'
 by_cases hjo:j=o;subst hjo;rw [Yia (by omega),hv]
 ·rw [Yja (by omega)];exact h0 j (by omega)
theorem Zof.all {H:Heap} {cb:Nat} {vs:List Value} (h:Zof H cb vs 16) (hl:vs.length=16): ∃T,Blk H cb T ⟨vs⟩:=by
 obtain ⟨T,arr,hb,hs,h0⟩:=h;have:arr=⟨vs⟩:=by
  apply Y2;apply YGa
  intro j;rcases Ys j 16 with hj | hj;have:=h0 j hj;rw [← Array.getElem?_toList] at this;exact this;rw [Yf (by rw [Array.length_toList];omega),Yf (by show vs.length <= j;omega)]
 exact ⟨T,this▸hb⟩
theorem st16 {H:Heap} {cb:Nat} {T:TypeId} {arr:Array Value} {w:W16} {K:Heap->Prop} (hb:Blk H cb T arr) (hs:arr.size=16)
  (hn: ∀H',(∃T,Blk H' cb T ⟨w.vals⟩)->Keep (fun b=>b=cb) H H'->K H'):
  Zc H ⟨cb,0,none⟩ (Value.int .u32 w.x0) (fun H1=>Zc H1 ⟨cb,1,none⟩ (Value.int .i64 w.x1) (fun H2=>Zc H2 ⟨cb,2,none⟩ (Value.int .i64 w.x2) (fun H3=>Zc H3 ⟨cb,3,none⟩ (Value.slice w.s3 w.m3 w.n3) (fun H4=>Zc H4 ⟨cb,4,none⟩ (Value.int .u32 w.x4) (fun H5=>Zc H5 ⟨cb,5,none⟩ (Value.bool w.b5) (fun H6=>Zc H6 ⟨cb,6,none⟩ (Value.int .u32 w.x6) (fun H7=>Zc H7 ⟨cb,7,none⟩ (Value.bool w.b7) (fun H8=>Zc H8 ⟨cb,8,none⟩ (Value.int .u32 w.x8) (fun H9=>Zc H9 ⟨cb,9,none⟩ (Value.bool w.b9) (fun H10=>Zc H10 ⟨cb,10,none⟩ (Value.bool w.b10) (fun H11=>Zc H11 ⟨cb,11,none⟩ (Value.int .u32 w.x11) (fun H12=>Zc H12 ⟨cb,12,none⟩ (Value.int .u32 w.x12) (fun H13=>Zc H13 ⟨cb,13,none⟩ (Value.slice w.s13 w.m13 w.n13) (fun H14=>Zc H14 ⟨cb,14,none⟩ (Value.slice w.s14 w.m14 w.n14) (fun H15=>Zc H15 ⟨cb,15,none⟩ (Value.bool w.b15) (fun H16=>K H16)))))))))))))))):=by
 have h0:Zof H cb w.vals 0:=⟨T,arr,hb,hs,fun j hj=>absurd hj (by omega)⟩
 have k0:Keep (fun b=>b=cb) H H:=Keep.refl _ _;refine h0.st k0 (by omega) rfl rfl fun H1 h1 k1=>?_
 refine h1.st k1 (by omega) rfl rfl fun H2 h2 k2=>?_
 refine h2.st k2 (by omega) rfl rfl fun H3 h3 k3=>?_
 refine h3.st k3 (by omega) rfl rfl fun H4 h4 k4=>?_
 refine h4.st k4 (by omega) rfl rfl fun H5 h5 k5=>?_
 refine h5.st k5 (by omega) rfl rfl fun H6 h6 k6=>?_
 refine h6.st k6 (by omega) rfl rfl fun H7 h7 k7=>?_
 refine h7.st k7 (by omega) rfl rfl fun H8 h8 k8=>?_
 refine h8.st k8 (by omega) rfl rfl fun H9 h9 k9=>?_
 refine h9.st k9 (by omega) rfl rfl fun H10 h10 k10=>?_
 refine h10.st k10 (by omega) rfl rfl fun H11 h11 k11=>?_
 refine h11.st k11 (by omega) rfl rfl fun H12 h12 k12=>?_
 refine h12.st k12 (by omega) rfl rfl fun H13 h13 k13=>?_
 refine h13.st k13 (by omega) rfl rfl fun H14 h14 k14=>?_
 refine h14.st k14 (by omega) rfl rfl fun H15 h15 k15=>?_
 refine h15.st k15 (by omega) rfl rfl fun H16 h16 k16=>?_
 exact hn H16 (h16.all rfl) k16
def Zs (c:Ch):Za:=(c.2.2.1,c.2.2.2.1,c.2.2.2.2.1,c.2.2.2.2.2.1,c.2.2.2.2.2.2.1,c.2.2.2.2.2.2.2.1,c.2.2.2.2.2.2.2.2.1,c.2.2.2.2.2.2.2.2.2.1,c.2.2.2.2.2.2.2.2.2.2.1,c.2.2.2.2.2.2.2.2.2.2.2.1,c.2.2.2.2.2.2.2.2.2.2.2.2.1,c.2.2.2.2.2.2.2.2.2.2.2.2.2.1,c.2.2.2.2.2.2.2.2.2.2.2.2.2.2.1)
def Zch (c d:Ch):Bool:=Zej (Zs c) (Zs d)
theorem Zcqk (c d:Ch) (K:Bool->Prop) (hw:WfT ksCh c) (h:K (Zch c d)):Zbjs c d K:=by unfold Zbjs;simp only [Zdc];simp only [WfT,WfE] at hw;obtain ⟨_,_,_,⟨p1,p2⟩,_,_,_,_,_,_,_,_,_,⟨c1,_⟩,⟨o1,o2⟩,_⟩:=hw;exact fun _=>Zdjx (Zs c) (Zs d) _ p1 (fun x hx=>(p2 x hx).2.1.1) c1 o1 (fun x hx=>(o2 x hx).2.1.1) fun _=>h
theorem Zcmq {H:Heap} {Z:Nat->Prop} {c d:Ch} {w u:W16} (hc:Ze Z H ksCh c (fun j=>w.vals[j]?)) (hd:Ze Z H ksCh d (fun j=>u.vals[j]?)) (hz: ∀b,Z b->H b≠none):
  FnW Tryz.prog Zgx ⟨[.agg ⟨w.vals⟩,.agg ⟨u.vals⟩]⟩ H fun v H'=>Keep Nil H H'∧v= .bool (Zch c d):=by
 refine (FnQ.run (x:=((c,d,()):PkTs Zxe)) Zcsn rfl rfl (Z:=Z) ?_ hz (fun b hb=>by cases hb) trivial (K:=fun y=>y.1=Zch c d) (Zcqk c d _ (Ze.wf _ _ _ hc) rfl)).mono fun v H' hk=>?_
 simp only [pksA,pkA,SimL,SimV,and_true];exact ⟨⟨_,rfl,Zbca hc rfl⟩,⟨_,rfl,Zbca hd rfl⟩⟩;obtain ⟨hk,y,hy,_,hv⟩:=hk;have:=hv 0 (gZ fun _=>False);obtain ⟨y,u⟩:=y;simp only at hy;subst hy;simp only [pksA,pkA,outA,SimV] at this;exact ⟨hk,this⟩
def lkH (g:List Ch) (x:Ch):Bool:=match g with
 | []=>false
 | h::_=>Zch h x
def gPut (x:Ch):List (List Ch)->List (List Ch)
 | []=>[[x]]
 | g::r=>match lkH g x with
  | true=>(g++[x])::r
  | false=>g::gPut x r
def Zgp (l:List Ch):List (List Ch):=l.foldl (fun out x=>gPut x out) []
theorem Zdeq {g:List Ch} {x:Ch} (h:0<g.length):lkH g x=Zch (g[0]) x:=by
 cases g with
 | nil=>simp at h
 | cons=>rfl
theorem Zbwr {x:Ch}: ∀{xss:List (List Ch)} {k:Nat} (hk:k<xss.length),(∀j (hj:j<k),lkH (xss[j]'(by omega)) x=false)->lkH xss[k] x=true->gPut x xss=xss.set k (xss[k]++[x])
 | [],_,hk,_,_=>by simp at hk
 | g::r,0,_,_,h=>by have h':lkH g x=true:=h;simp only [gPut,h',List.set_cons_zero,List.getElem_cons_zero]
 | g::r,k+1,hk,h0,h=>by
  have h1:lkH g x=false:=h0 0 (by omega)
  have hk':k<r.length:=by simpa using hk
  have:=Zbwr (x:=x) hk' (fun j hj=>h0 (j+1) (by omega)) h
  simp only [gPut,h1,List.set_cons_succ,List.getElem_cons_succ,this]
theorem Zcgx {x:Ch}: ∀{xss:List (List Ch)},(∀j (hj:j<xss.length),lkH xss[j] x=false)->gPut x xss=xss++[[x]]
 | [],_=>rfl
 | g::r,h=>by
  have h1:lkH g x=false:=h 0 (by simp)
  have:=Zcgx (x:=x) (xss:=r) (fun j hj=>h (j+1) (by simpa using hj))
  simp only [gPut,h1,this,List.cons_append]
theorem Zcbj {x:Ch}: ∀{xss:List (List Ch)},(∀g∈xss,g≠[])->∀g∈gPut x xss,g≠[]
 | [],_,g,hg=>by simp only [gPut,YB] at hg;subst hg;simp
 | g0::r,h,g,hg=>by simp only [gPut] at hg;split at hg;rcases Yj.1 hg with rfl | hg;simp;exact h g (Yi _ hg);rcases Yj.1 hg with rfl | hg;exact h g Yk;exact Zcbj (fun g hg=>h g (Yi _ hg)) g hg
theorem Zchq {x:Ch} {i:Nat}: ∀{xss:List (List Ch)},(∀g∈xss,g.length <= i)->(gPut x xss).length <= xss.length+1∧∀g∈gPut x xss,g.length <= i+1
 | [],_=>by simp [gPut]
 | g0::r,h=>by
  obtain ⟨q1,q2⟩:=Zchq (x:=x) (xss:=r) (fun g hg=>h g (Yi _ hg));have q0:=h g0 Yk;simp only [gPut];split
  ·refine ⟨by simp,fun g hg=>?_⟩
   rcases Yj.1 hg with rfl | hg;simp;omega;have:=h g (Yi _ hg);omega
  ·refine ⟨by simpa using q1,fun g hg=>?_⟩
   rcases Yj.1 hg with rfl | hg;omega;exact q2 g hg
theorem Zbjr:RowI Zbr [.int .u32 0,.int .i64 0,.int .i64 0,.slice none 0 0,.int .u32 0,.bool false,.int .u32 0,.bool false,.int .u32 0,.bool false,.bool false,.int .u32 0,.int .u32 0,.slice none 0 0,.slice none 0 0,.bool false] 16 136:=RowI.mk' (by kernel_rfl) (by kernel_rfl) rfl
theorem Zbnf:RowI Zey [.slice none 0 0] 1 24:=RowI.mk' (by kernel_rfl) (by kernel_rfl) rfl
theorem Zbzz:Tryz.prog.underlying Zey=some (.slice Zbr):=by kernel_rfl
theorem Zbyv:Tryz.prog.underlying Zbbp=some (.slice Zey):=by kernel_rfl
structure GInv (H0:Heap) (Z:Nat->Prop) (xss:List (List Ch)) (ins:List Inn) (a:Option Addr) (c:Nat) (xb:Nat) (w:W16) (x:Ch) (H:Heap):Prop where
 d:Deep H0 H Zey Zbr 16 ins a c
 ho:Holds Z H ksCh ins xss
 blk: ∃T,Blk H xb T ⟨w.vals⟩
 is:Ze Z H ksCh x (fun j=>w.vals[j]?)
 ap: ∀(j:Nat) (i:Inn),ins[j]? =some i->i.a≠some ⟨xb,0,none⟩
 apo:a≠some ⟨xb,0,none⟩
 k0:Keep Nil H0 H
theorem GInv.quiet {H0:Heap} {Z:Nat->Prop} {xss:List (List Ch)} {ins:List Inn} {a:Option Addr} {c xb:Nat} {w:W16} {x:Ch} {H H':Heap} (v:GInv H0 Z xss ins a c xb w x H) (hz0: ∀b,Z b->H0 b≠none) (k:Keep Nil H H'):GInv H0 Z xss ins a c xb w x H':=by have hz: ∀b,Z b->H' b=H b:=fun b hb=>k.same b (fun h=>h) (v.k0.live b (hz0 b hb));obtain ⟨T,hb⟩:=v.blk;exact ⟨v.d.keep k (fun b h=>h.elim),v.ho.keep hz,⟨T,k.blk hb (fun h=>h)⟩,Ze.ext (fun b hb=>⟨hb,hz b hb⟩) _ _ _ v.is,v.ap,v.apo,v.k0.trans k⟩
theorem Zdnf {H0 H:Heap} {Z:Nat->Prop} {xss:List (List Ch)} {ins:List Inn} {la a:Option Addr} {ln lc c xb i k:Nat} {w:W16} {x:Ch} {next3:((Option Addr×Nat×Nat)×Int×Unit)->Heap->Prop} {next6:(Int×Unit)->Heap->Prop} {R:Value->Heap->Prop}
  (v:GInv H0 Z xss ins a c xb w x H) (hz0: ∀b,Z b->H0 b≠none) (hk:k<xss.length) (hne: ∀g∈xss,g≠[]) (hsz: ∀g∈xss,g.length <= 1000000000) (hxl:xss.length <= 1000000000)
  (hput:lkH xss[k] x=true->∀ins' H',Deep H0 H' Zey Zbr 16 ins' a c->Holds Z H' ksCh ins' (xss.set k (xss[k]++[x]))->ins'.length=ins.length->Keep Nil H0 H'->next3 ((a,ins.length,c),(IntKind.wrap .i64 ((i:Int)+1),())) H')
  (hnx:lkH xss[k] x=false->∀H',GInv H0 Z xss ins a c xb w x H'->next6 (IntKind.wrap .i64 ((k:Int)+1),()) H'):
  Zrv Zgx a ins.length c xb la ln lc i next3 k H next6 R:=by
 have hlen:ins.length=xss.length:=v.ho.1;have hj:ins[k]? =some (ins[k]'(by omega)):=Yc (by omega)
 generalize ins[k]'(by omega)=inn at hj
 obtain ⟨m,rfl,hcell⟩:=v.d.cell hj;obtain ⟨hin',hid⟩:=v.ho.2 _ inn _ hj (Yc hk);have hin:inn.n=(xss[k]).length:=hin';have hgl:(xss[k]).length <= 1000000000:=hsz _ (Yza hk);have hgn:0<(xss[k]).length:=List.length_pos_iff.2 (hne _ (Yza hk));have own:=v.d.inn _ inn hj;obtain ⟨mi,hmi⟩:=own.addr (by omega)
 obtain ⟨ri,hbi,_⟩:=own.blk hmi;obtain ⟨Tx,hbx⟩:=v.blk;have hg0:(xss[k])[0]? =some ((xss[k])[0]):=Yc hgn;have hc0:=hid 0 _ hg0;obtain ⟨u,hu,huc⟩:=Zcic hc0;have hyl:=own.len;have hcu: ∀j (y:Value),u.vals[j]? =some y->H.cell ⟨mi,0+0*16+j,none⟩=some y:=fun j y hy=>by
  have hj16:j<16:=by
   rcases Ys j 16 with h | h;exact h
   ·rw [Yf (by show u.vals.length <= j;rw [u.len];exact h)] at hy;cases hy
  rw [hbi.cell];simp only [YE];rw [Yd (by rw [hyl,hin];omega)]
  have:=hu j hj16;simp only [Y0a,Yx,List.length_cons,List.length_nil] at this ⊢;rw [this];exact hy
 have hcx: ∀j (y:Value),w.vals[j]? =some y->H.cell ⟨xb,j,none⟩=some y:=fun j y hy=>by rw [hbx.cell];simpa using hy
 unfold Zrv;refine ifT (decide_eq_true (by omega)) ?_
 refine NilP.intro ⟨m,0,none⟩ rfl ⟨by omega,by omega,?_⟩
 show elemAt _ _ 1 _;rw [Zjk];simp only [Int.toNat_natCast,Yx,Yta];refine ⟨inn.a,inn.n,inn.cap,hcell,?_⟩;rw [hmi];refine NilP.intro ⟨mi,0,none⟩ rfl ⟨by omega,by omega,?_⟩
 show elemAt _ _ 16 _;rw [Zjk];refine rd16 hcu ?_;refine Zbjb hcx ?_;have hlk:lkH xss[k] x=Zch ((xss[k])[0]) x:=Zdeq hgn;refine (Zcmq huc v.is (fun b hb=>v.k0.live b (hz0 b hb))).mono fun y H2 hk2=>?_;obtain ⟨k2,rfl⟩:=hk2;rw [← hlk];refine ⟨_,rfl,IfB.intro (fun h1=>?_) (fun h1=>hnx h1 H2 (v.quiet hz0 k2))⟩;have v2:=v.quiet hz0 k2;obtain ⟨Tx2,hbx2⟩:=v2.blk;have hcx2: ∀j (y:Value),w.vals[j]? =some y->H2.cell ⟨xb,j,none⟩=some y:=fun j y hy=>by rw [hbx2.cell];simpa using hy
 refine Zbjb hcx2 fun nb hnb=>?_;have kn:Keep Nil H2 (H2.upd nb (.cells ⟨w.vals⟩ Zbr (0,0))):=(Keep.refl _ _).new hnb;have hbn:Blk (H2.upd nb (.cells ⟨w.vals⟩ Zbr (0,0))) nb Zbr ⟨w.vals⟩:=Blk.upd_eq;show AppW _ _ _ _ (H2.upd nb (.cells ⟨w.vals⟩ Zbr (0,0))) _;generalize H2.upd nb (.cells ⟨w.vals⟩ Zbr (0,0))=H3 at kn hbn ⊢;have v3:=v2.quiet hz0 kn;obtain ⟨it,hi1,hi2,hi3⟩:=Zbjr.info;rw [← hmi];refine Zdmn (k:=1) (i:=inn) (j:=k) (new:=w.vals) (by decide) Zbzz Zbzz hi1 hi2 hi3 (by decide) Zbjr.zero Zbjr.len v3.d hj v3.k0 (Reads.blk hbn rfl fun j hj=>by simp) w.plain (by omega) (fun i' m' H8 h1 h2 h3 h4 hst kk=>?_)
 cases h3;refine ⟨i'.a,i'.n,i'.cap,rfl,?_⟩;refine NilP.intro ⟨m,0,none⟩ rfl ⟨by omega,by omega,?_⟩
 show elemAt _ _ 1 _;rw [Zjk];simp only [Int.toNat_natCast,Yx,Yta];refine hst _ fun H9 d9 k9 k09 _=>?_;unfold Zbha;have hz9: ∀b,Z b->H9 b=H b:=fun b hb=>by have e1:H3 b=H b:=(kn.same b (fun h=>h) (v2.k0.live b (hz0 b hb))).trans (k2.same b (fun h=>h) (v.k0.live b (hz0 b hb)));rw [k9.same b (fun h=>hz0 b hb h) (by rw [e1];exact v.k0.live b (hz0 b hb)),e1]
 refine hput (by assumption) (ins.set k i') H9 d9 ?_ (by simp) k09
 refine (v.ho.keep hz9).set (k:=k) (i:=i') (xs:=xss[k]++[x]) ?_ ?_;show i'.n=(xss[k]++[x]).length;rw [h1,hin,Yb];rfl
 ·intro t y ht;have ht':(xss[k]++[x])[t]? =some y:=ht;rw [h2];by_cases hlt:t<(xss[k]).length;rw [Yd hlt] at ht';have hold:=Ze.ext (fun b hb=>⟨hb,hz9 b hb⟩) _ _ _ (hid t y ht');refine Ze.congr (fun q hq=>?_) hold;simp only [List.length_cons,List.length_nil] at hq ⊢;rw [Yd (by rw [hyl,hin];omega)]
  ·have hte:t=(xss[k]).length:=by
    rcases Ys t ((xss[k]).length+1) with h | h;omega
    ·rw [Yf (by simp;omega)] at ht';cases ht'
   rw [Yg (by omega),hte,YUa] at ht'
   have ht2:some x=some y:=ht';cases ht2;refine Ze.congr (fun q hq=>?_) (Ze.ext (fun b hb=>⟨hb,hz9 b hb⟩) _ _ _ v.is);simp only [List.length_cons,List.length_nil] at hq ⊢;rw [Yg (by rw [hyl,hin,hte];omega)]
   congr 1;rw [hyl,hin,hte];omega
theorem Zcoc {H0 H:Heap} {Z:Nat->Prop} {xss:List (List Ch)} {ins:List Inn} {la a:Option Addr} {ln lc c xb i:Nat} {w:W16} {x:Ch} {next3:((Option Addr×Nat×Nat)×Int×Unit)->Heap->Prop} {next6:(Int×Unit)->Heap->Prop} {R:Value->Heap->Prop}
  (v:GInv H0 Z xss ins a c xb w x H) (hz0: ∀b,Z b->H0 b≠none) (hxl:xss.length <= 1000000000)
  (hput: ∀ins' a' c' H',Deep H0 H' Zey Zbr 16 ins' a' c'->Holds Z H' ksCh ins' (xss++[[x]])->Keep Nil H0 H'->next3 ((a',ins'.length,c'),(IntKind.wrap .i64 ((i:Int)+1),())) H'):
  Zrv Zgx a ins.length c xb la ln lc i next3 (ins.length:Nat) H next6 R:=by
 have hlen:ins.length=xss.length:=v.ho.1;obtain ⟨Tx,hbx⟩:=v.blk;have hcx: ∀j (y:Value),w.vals[j]? =some y->H.cell ⟨xb,j,none⟩=some y:=fun j y hy=>by rw [hbx.cell];simpa using hy
 unfold Zrv;refine ifF (decide_eq_false (by omega)) ?_
 refine Zbjb hcx fun nb hnb=>?_;have kn:Keep Nil H (H.upd nb (.cells ⟨w.vals⟩ Zbr (0,0))):=(Keep.refl _ _).new hnb;have hbn:Blk (H.upd nb (.cells ⟨w.vals⟩ Zbr (0,0))) nb Zbr ⟨w.vals⟩:=Blk.upd_eq;show NewW (H.upd nb (.cells ⟨w.vals⟩ Zbr (0,0))) _ _;generalize H.upd nb (.cells ⟨w.vals⟩ Zbr (0,0))=H2 at kn hbn ⊢;have v2:=v.quiet hz0 kn;have hn0:H0 nb=none:=v.k0.free hnb;intro mb hmb;have km:Keep Nil H2 (H2.upd mb (.cells ⟨[.slice (some ⟨nb,0,none⟩) 1 1]⟩ Zey (0,0))):=(Keep.refl _ _).new hmb;have hbm:Blk (H2.upd mb (.cells ⟨[.slice (some ⟨nb,0,none⟩) 1 1]⟩ Zey (0,0))) mb Zey ⟨[.slice (some ⟨nb,0,none⟩) 1 1]⟩:=Blk.upd_eq;generalize H2.upd mb (.cells ⟨[.slice (some ⟨nb,0,none⟩) 1 1]⟩ Zey (0,0))=H3 at km hbm ⊢;have v3:=v2.quiet hz0 km;have own:Go.Sh.Own H0 H3 (some ⟨nb,0,none⟩) 1 1 16 Zbr w.vals:=(Own.row hn0 hbn rfl).keep km fun b _ h=>h;obtain ⟨it,hi1,hi2,hi3⟩:=Zbnf.info;refine Zcwf (i:=⟨some ⟨nb,0,none⟩,1,1,w.vals⟩) (by decide) Zbyv Zbyv hi1 hi2 hi3 (by decide) Zbnf.zero Zbnf.len v3.d own (by show 1 <= 9223372036854775807;omega) (fun j i' b hj hb e=>?_) (fun b hb e=>?_) v3.k0 (Reads.blk hbm rfl fun j hj=>by simp [Inn.val]) (by omega) fun a' c' H5 d5 kk k5=>?_
 cases e;obtain ⟨cc,hh⟩:=(v.d.inn j i' hj).live hb;exact hh.some hnb;cases hb;obtain ⟨cc,hh⟩:=v.d.out.live e;exact hh.some hnb
 ·refine ⟨a',ins.length+1,c',rfl,?_⟩;unfold Zbha;have hz5: ∀b,Z b->H5 b=H3 b:=fun b hb=>by rw [k5.same b (fun h=>h.elim) (hz0 b hb),v3.k0.same b (fun h=>h.elim) (hz0 b hb)]
  have:=hput (ins++[⟨some ⟨nb,0,none⟩,1,1,w.vals⟩]) a' c' H5 d5 (Holds.push (v3.ho.keep hz5) (xs:=[x]) rfl fun t y ht=>?_) k5;simpa using this
  ·have ht':([x]:List Ch)[t]? =some y:=ht;have ht0:t=0:=by
    rcases Ys t 1 with h | h;omega
    ·rw [Yf (by simpa using h)] at ht';cases ht'
   subst ht0;have e2:some x=some y:=ht';cases e2;refine Ze.congr (fun q hq=>?_) (Ze.ext (fun b hb=>⟨hb,hz5 b hb⟩) _ _ _ v3.is);simp only [Y0a,Yx]
theorem Zdbh {Z:Nat->Prop} {H:Heap} {l:List Ch} {a:Option Addr} {n c:Nat} (h:Zb Z H (.lst ksCh) l (.slice a n c)) {i:Nat} (hi:i<l.length):
  ∃b o w,a=some ⟨b,o,none⟩∧Z b∧(∀j v,(W16.vals w)[j]? =some v->H.cell ⟨b,o+i*16+j,none⟩=some v)∧Ze Z H ksCh l[i] (fun j=>w.vals[j]?):=by
 simp only [Zb] at h;obtain ⟨a',n',c',e,hl,_,_,hat⟩:=h;cases e;have hl':l.length=n:=hl;obtain ⟨b,o,rfl,hz,cs,T,fr,hb,hc⟩:=hat (by omega)
 obtain ⟨w,hw,hwc⟩:=Zcic (hc i (l[i]) (Yc hi));refine ⟨b,o,w,rfl,hz,fun j v hv=>?_,hwc⟩;have hj16:j<16:=by
  rcases Ys j 16 with h | h;exact h
  ·rw [Yf (by show w.vals.length <= j;rw [w.len];exact h)] at hv;cases hv
 have:=hw j hj16;simp only [List.length_cons,List.length_nil,Yx,Nat.reduceAdd] at this;simp only [Heap.cell,hb];rw [this];exact hv
theorem Zcqq {H0 H:Heap} {Z:Nat->Prop} {l:List Ch} {la:Option Addr} {ln lc:Nat} {i:Nat} {xss:List (List Ch)} {ins:List Inn} {a:Option Addr} {c:Nat} {next:((Option Addr×Nat×Nat)×Int×Unit)->Heap->Prop} {R:Value->Heap->Prop}
  (hl:Zb Z H0 (.lst ksCh) l (.slice la ln lc)) (hi:i<l.length) (d:Deep H0 H Zey Zbr 16 ins a c) (ho:Holds Z H ksCh ins xss) (hne: ∀g∈xss,g≠[]) (hsz: ∀g∈xss,g.length <= 1000000000) (hxl:xss.length <= 1000000000) (k0:Keep Nil H0 H) (hz0: ∀b,Z b->H0 b≠none)
  (hn: ∀ins' a' c' H',Deep H0 H' Zey Zbr 16 ins' a' c'->Holds Z H' ksCh ins' (gPut l[i] xss)->Keep Nil H0 H'->next ((a',ins'.length,c'),(IntKind.wrap .i64 ((i:Int)+1),())) H'):
  Zbhq Zgx la ln lc a ins.length c i H next R:=by
 have hln:ln=l.length:=by simp only [Zb] at hl;obtain ⟨_,_,_,e,h,_⟩:=hl;cases e;exact h.symm
 have hlH:Zb Z H (.lst ksCh) l (.slice la ln lc):=Zb.ext (fun b hb=>⟨hb,k0.same b (fun h=>h.elim) (hz0 b hb)⟩) _ _ _ hl;obtain ⟨b,o,w,rfl,hzb,hcw,hwc⟩:=Zdbh hlH hi;have hlen:ins.length=xss.length:=ho.1;generalize l[i]=x at hwc hn;unfold Zbhq;refine ifT (decide_eq_true (by omega)) ?_
 refine NilP.intro ⟨b,o,none⟩ rfl ⟨by omega,by omega,?_⟩
 show elemAt _ _ 16 _;rw [Zjk];simp only [Int.toNat_natCast];refine rd16 hcw fun cb hcb=>?_;have kn:=(Keep.refl Nil H).new (o:= .cells ⟨[.int .u32 0,.int .i64 0,.int .i64 0,.slice none 0 0,.int .u32 0,.bool false,.int .u32 0,.bool false,.int .u32 0,.bool false,.bool false,.int .u32 0,.int .u32 0,.slice none 0 0,.slice none 0 0,.bool false]⟩ Zbr (0,0)) hcb;have hB2:Blk (H.upd cb (.cells ⟨[.int .u32 0,.int .i64 0,.int .i64 0,.slice none 0 0,.int .u32 0,.bool false,.int .u32 0,.bool false,.int .u32 0,.bool false,.bool false,.int .u32 0,.int .u32 0,.slice none 0 0,.slice none 0 0,.bool false]⟩ Zbr (0,0))) cb Zbr _:=Blk.upd_eq;generalize H.upd cb (.cells ⟨[.int .u32 0,.int .i64 0,.int .i64 0,.slice none 0 0,.int .u32 0,.bool false,.int .u32 0,.bool false,.int .u32 0,.bool false,.bool false,.int .u32 0,.int .u32 0,.slice none 0 0,.slice none 0 0,.bool false]⟩ Zbr (0,0))=H2 at kn hB2 ⊢;refine st16 (w:=w) hB2 rfl fun H18 hb18 hk18=>?_;have k18:Keep Nil H H18:=kn.then hk18 fun b hb=> .inr (by rw [hb];exact hcb)
 have hz18: ∀b,Z b->H18 b=H b:=fun b hb=>k18.same b (fun h=>h) (k0.live b (hz0 b hb));have v:GInv H0 Z xss ins a c cb w x H18:=⟨d.keep k18 (fun b h=>h.elim),ho.keep hz18,hb18,Ze.ext (fun b hb=>⟨hb,hz18 b hb⟩) _ _ _ hwc,fun j i' hj e=>by
   obtain ⟨cc,hh⟩:=(d.inn j i' hj).live e;exact hh.some hcb,fun e=>by
   obtain ⟨cc,hh⟩:=d.out.live e;exact hh.some hcb,k0.trans k18⟩
 refine ⟨fun m y H'=>∃k:Nat,y=((k:Int),())∧k <= xss.length∧m=xss.length - k∧GInv H0 Z xss ins a c cb w x H'∧∀j (hj:j<xss.length),j<k->lkH xss[j] x=false,xss.length,⟨0,rfl,YI _,rfl,v,fun j _ h=>absurd h (by omega)⟩,?_⟩
 rintro m y H' ⟨k,rfl,hkl,rfl,v',hno⟩ gE;simp only;rcases Ys k xss.length with hlt | hge
 ·refine Zdnf v' hz0 hlt hne hsz hxl (fun h1 ins' H2 d2 h2 h3 h4=>?_) (fun h1 H2 v2=>?_)
  ·have:=hn ins' a c H2 d2 (by rw [Zbwr hlt (fun j hj=>hno j (by omega) hj) h1];exact h2) h4
   rwa [h3] at this
  ·refine ⟨xss.length - (k+1),by omega,k+1,?_,by omega,rfl,v2,fun j hj hjk=>?_⟩
   ·rw [Zh (by omega) (by omega)];rfl
   by_cases e:j=k;subst e;exact h1;exact hno j hj (by omega)
 ·have hke:k=ins.length:=by omega
  subst hke;refine Zcoc v' hz0 hxl fun ins' a' c' H2 d2 h2 h4=>hn ins' a' c' H2 d2 ?_ h4;rw [Zcgx (fun j hj=>hno j hj (by omega))];exact h2
theorem Zvx {l:List Ch} {i:Nat} (hi:i<l.length):Zgp (l.take (i+1))=gPut l[i] (Zgp (l.take i)):=by unfold Zgp;rw [YFa,Yc hi,List.foldl_append];rfl
abbrev Zbnn:List Pk:=[Pk.lst ksCh,Pk.fn Zgx]
abbrev Zbnt:List Pk:=[Pk.lst [Kd.lst ksCh]]
def Zboq (l:List Ch) (K:List (List Ch)->Prop):Prop:=l.length <= 1000000000∧K (Zgp l)
theorem Zdof {H:Heap} {Z:Nat->Prop} {l:List Ch} {v:Value} (hb':l.length <= 1000000000) (hl':Zb Z H (.lst ksCh) l v) (hz: ∀b,Z b->H b≠none):
  FnW Tryz.prog Zob ⟨[v,.func (.func Zgx) #[] #[]]⟩ H fun v H'=>Keep Nil H H'∧∃Zn:Nat->Prop,(∀b,Zn b->H b=none∧∃c T r,H' b=some (.cells c T r))∧Zb (fun b=>Z b∨Zn b) H' (.lst [.lst ksCh]) (Zgp l) v:=by
 have hl0:=hl';simp only [Zb] at hl0;obtain ⟨la,ln,lc,rfl,hln,_⟩:=hl0;refine Zdns la ln lc Zgx ?_;unfold Zblz;refine ⟨fun k x H'=>∃(i:Nat) (ins:List Inn) (a:Option Addr) (c:Nat),x=((a,ins.length,c),((i:Int),()))∧i <= l.length∧k=l.length - i∧Deep H H' Zey Zbr 16 ins a c∧Holds Z H' ksCh ins (Zgp (l.take i))∧(Zgp (l.take i)).length <= i∧(∀g∈Zgp (l.take i),g.length <= i)∧(∀g∈Zgp (l.take i),g≠[])∧Keep Nil H H',l.length,⟨0,[],none,0,rfl,YI _,rfl,⟨Own.nil,fun j i h=>by simp at h,fun j j' i i' b _ h=>by simp at h,by omega,fun j i h=>by simp at h⟩,⟨rfl,fun j i xs h=>by simp at h⟩,Yh _,fun xs h=>absurd h (by show xs∉([]:List (List Ch));simp),fun xs h=>absurd h (by show xs∉([]:List (List Ch));simp),Keep.refl _ _⟩,?_⟩
 rintro k x H' ⟨i,ins,a,c,rfl,hi,rfl,d,ho,h1,h2,h3,k0⟩ gE;simp only;rcases Ys i l.length with hlt | hge
 ·refine Zcqq (xss:=Zgp (l.take i)) hl' hlt d ho h3 (fun g hg=>by have:=h2 g hg;omega) (by omega) k0 hz (fun ins' a' c' H2 hd hh hk=>?_)
  obtain ⟨q1,q2⟩:=Zchq (x:=l[i]) h2;refine ⟨l.length - (i+1),by omega,i+1,ins',a',c',?_,by omega,rfl,hd,?_,?_,?_,?_,hk⟩
  ·rw [Zh (by omega) (by omega)];rfl
  rw [Zvx hlt];exact hh;rw [Zvx hlt];omega;rw [Zvx hlt];exact q2;rw [Zvx hlt];exact Zcbj h3
 ·have hil:i=l.length:=by omega
  subst hil;have hlnn:l.length=ln:=hln;rw [Yra] at ho h1 h2;unfold Zbhq;refine ifF (decide_eq_false (by omega)) fun H2 hsh=>?_
  exact Zdko hsh hz k0 (d.frz ho rfl fun xs hx=>Yoa (h2 xs hx) (by unfold Zw;omega))
theorem Zdhk:FnQ Tryz.prog Zob Zbnn Zbnt (fun x K=>Zboq x.1 (fun r0=>K (r0,()))):=by
 refine Zdny rfl (fun _=>rfl) fun x K hx H Z vs hs hz _ _=>?_;obtain ⟨l,u1,u⟩:=x;obtain ⟨hb,hK⟩:=hx;have hs':SimL (gZ Z) H 0 [AV.lst ksCh l,.fn Zgx []] vs:=hs;cases vs with
 | nil=>simp only [SimL] at hs'
 | cons v vs=>
 cases vs with
 | nil=>simp only [SimL] at hs';exact hs'.2.elim
 | cons w vs=>
 cases vs with
 | cons=>simp only [SimL] at hs';exact hs'.2.2.elim
 | nil=>
 simp only [SimL,SimV] at hs';obtain ⟨hl,hf,_⟩:=hs';have hw:w= .func (.func Zgx) #[] #[]:=by
  obtain ⟨us,h1,h2⟩:=hf;cases us with
  | nil=>exact h1
  | cons=>exact h2.elim
 subst hw;refine (Zdof hb hl hz).mono fun v H' hk=>?_;obtain ⟨k,Zn,z1,z2⟩:=hk;exact ⟨k,_,Zn,z1,z2,hK⟩
noncomputable def Zbtb:Ct:=Zbq Zbnn Zbnt (fun x K=>Zboq x.1 (fun r0=>K (r0,())))
theorem Zdoi:Zk Tryz.prog Zob Zbtb:=Zbt Zdhk
def Hd (H:Heap) (cb:Nat) (x y:Value):Prop:=∃T arr,Blk H cb T arr∧arr.size=16∧arr[0]? =some x∧arr[1]? =some y
theorem Hd.st {H Ha:Heap} {cb o:Nat} {x y v:Value} {K:Heap->Prop} (h:Hd H cb x y) (k:Keep (fun b=>b=cb) Ha H) (h2:2 <= o) (ho:o<16) (hv:Zv v=true)
  (hn: ∀H',Hd H' cb x y->Keep (fun b=>b=cb) Ha H'->K H'):Zc H ⟨cb,o,none⟩ v K:=by
 obtain ⟨T,arr,hb,hs,h0,h1⟩:=h;refine Zc.step hb k (by omega) hv fun H' hb' hk'=>hn H' ⟨T,_,hb',by simpa using hs,?_,?_⟩ hk'
 ·rw [Yja (by omega)];exact h0
 ·rw [Yja (by omega)];exact h1
theorem Hd.first {H:Heap} {cb:Nat} {T:TypeId} {arr:Array Value} {v w:Value} {K:Heap->Prop} (hb:Blk H cb T arr) (hs:arr.size=16) (hv:Zv v=true) (hw:Zv w=true)
  (hn: ∀H',Hd H' cb v w->Keep (fun b=>b=cb) H H'->K H'):Zc H ⟨cb,0,none⟩ v fun H1=>Zc H1 ⟨cb,1,none⟩ w K:=by
 refine Zc.step hb (Keep.refl _ _) (by omega) hv fun H1 hb1 hk1=>?_
 refine Zc.step hb1 hk1 (by simp;omega) hw fun H2 hb2 hk2=>hn H2 ⟨T,_,hb2,by simpa using hs,?_,?_⟩ hk2
 rw [Yja (by omega),Yia (by omega)]
 rw [Yia (by simp;omega)]
theorem Zczh {H:Heap} {cb:Nat} {T:TypeId} {arr:Array Value} {v0 v1 v2 v3 v4 v5 v6 v7 v8 v9 v10 v11 v12 v13 v14 v15:Value} {K:Heap->Prop} (hb:Blk H cb T arr) (hs:arr.size=16) (p0:Zv v0=true) (p1:Zv v1=true) (p2:Zv v2=true) (p3:Zv v3=true) (p4:Zv v4=true) (p5:Zv v5=true) (p6:Zv v6=true) (p7:Zv v7=true) (p8:Zv v8=true) (p9:Zv v9=true) (p10:Zv v10=true) (p11:Zv v11=true) (p12:Zv v12=true) (p13:Zv v13=true) (p14:Zv v14=true) (p15:Zv v15=true)
  (hn: ∀H',Hd H' cb v0 v1->Keep (fun b=>b=cb) H H'->K H'):
  Zc H ⟨cb,0,none⟩ v0 (fun H1=>Zc H1 ⟨cb,1,none⟩ v1 (fun H2=>Zc H2 ⟨cb,2,none⟩ v2 (fun H3=>Zc H3 ⟨cb,3,none⟩ v3 (fun H4=>Zc H4 ⟨cb,4,none⟩ v4 (fun H5=>Zc H5 ⟨cb,5,none⟩ v5 (fun H6=>Zc H6 ⟨cb,6,none⟩ v6 (fun H7=>Zc H7 ⟨cb,7,none⟩ v7 (fun H8=>Zc H8 ⟨cb,8,none⟩ v8 (fun H9=>Zc H9 ⟨cb,9,none⟩ v9 (fun H10=>Zc H10 ⟨cb,10,none⟩ v10 (fun H11=>Zc H11 ⟨cb,11,none⟩ v11 (fun H12=>Zc H12 ⟨cb,12,none⟩ v12 (fun H13=>Zc H13 ⟨cb,13,none⟩ v13 (fun H14=>Zc H14 ⟨cb,14,none⟩ v14 (fun H15=>Zc H15 ⟨cb,15,none⟩ v15 (fun H16=>K H16)))))))))))))))):=by
 refine Hd.first hb hs p0 p1 fun H2 h2 k2=>?_;refine h2.st k2 (by omega) (by omega) p2 fun H3 h3 k3=>?_
 refine h3.st k3 (by omega) (by omega) p3 fun H4 h4 k4=>?_
 refine h4.st k4 (by omega) (by omega) p4 fun H5 h5 k5=>?_
 refine h5.st k5 (by omega) (by omega) p5 fun H6 h6 k6=>?_
 refine h6.st k6 (by omega) (by omega) p6 fun H7 h7 k7=>?_
 refine h7.st k7 (by omega) (by omega) p7 fun H8 h8 k8=>?_
 refine h8.st k8 (by omega) (by omega) p8 fun H9 h9 k9=>?_
 refine h9.st k9 (by omega) (by omega) p9 fun H10 h10 k10=>?_
 refine h10.st k10 (by omega) (by omega) p10 fun H11 h11 k11=>?_
 refine h11.st k11 (by omega) (by omega) p11 fun H12 h12 k12=>?_
 refine h12.st k12 (by omega) (by omega) p12 fun H13 h13 k13=>?_
 refine h13.st k13 (by omega) (by omega) p13 fun H14 h14 k14=>?_
 refine h14.st k14 (by omega) (by omega) p14 fun H15 h15 k15=>?_
 refine h15.st k15 (by omega) (by omega) p15 fun H16 h16 k16=>?_
 exact hn H16 h16 k16
theorem Zcnb {l0:Nat} {Hs:Heap} {Z:Nat->Prop} {b1 b2:Nat} {T2:TypeId} {C:Cons Tryz.prog l0 Zee.ps Hs [b1,b2]} {l:List Ch} {most:Int} {ns:List (UInt32×Int)} {a:Option Addr} {cap:Nat} {H:Heap} {Z' W':Nat->Prop} {ys:List Value}
  {la:Option Addr} {ln lc:Nat} {i:Nat} {n:Int} {next:((Option Addr×Nat×Nat)×Int×Int×Unit)->Heap->Prop} {R:Value->Heap->Prop}
  (hl:Zb Z Hs (.lst ksCh) l (.slice la ln lc)) (hi:i<l.length) (hb:l.length <= 1000000000) (hni:ns.length <= i) (hz0: ∀b,Z b->Hs b≠none) (hb1:Hs b1≠none) (hb2:Hs b2=some (.cells ⟨[.int .i64 most]⟩ T2 (0,0)))
  (v:PInv Hs Z b1 b2 C (Zin most (l.drop i) ns n) ns a cap H Z' W' ys)
  (hR: ∀H',(∃Z' W',C.X Z' W' H')->R (.tuple ⟨[]⟩) H')
  (hn: ∀ns' a' cap' ys' n' Z'' W'' H',ns'.length <= i+1->PInv Hs Z b1 b2 C (Zin most (l.drop (i+1)) ns' n') ns' a' cap' H' Z'' W'' ys'->next ((a',ns'.length,cap'),(n',(IntKind.wrap .i64 ((i:Int)+1),()))) H'):
  Zvb l0 b2 la ln lc a ns.length cap n i H next R:=by
 have hln:ln=l.length:=by simp only [Zb] at hl;obtain ⟨_,_,_,e,h,_⟩:=hl;cases e;exact h.symm
 have hb2':Hs b2≠none:=by rw [hb2];simp
 have hlH:Zb Z H (.lst ksCh) l (.slice la ln lc):=Zb.ext (fun b hb=>⟨hb,(v.z b hb).2⟩) _ _ _ hl;obtain ⟨b,o,rfl,hzb,hbl,hr,c0,c1,⟨x2,c2⟩,⟨x3,y3,z3,c3⟩,⟨x4,c4⟩,⟨x5,c5⟩,⟨x6,c6⟩,⟨x7,c7⟩,⟨x8,c8⟩,⟨x9,c9⟩,⟨x10,c10⟩,⟨x11,c11⟩,⟨x12,c12⟩,⟨x13,y13,z13,c13⟩,⟨x14,y14,z14,c14⟩,⟨x15,c15⟩⟩:=Zdkv hlH hi;rw [YIa hi,Zdop] at v;generalize chP l[i]=p at v hr c0 c1;unfold Zvb;refine ifT (decide_eq_true (by omega)) ?_
 refine NilP.intro ⟨b,o,none⟩ rfl ⟨by omega,by omega,?_⟩
 show elemAt _ _ 16 _;rw [Zjk];simp only [Int.toNat_natCast];refine ⟨_,c0,_,c1,x2,c2,x3,y3,z3,c3,x4,c4,x5,c5,x6,c6,x7,c7,x8,c8,x9,c9,x10,c10,x11,c11,x12,c12,x13,y13,z13,c13,x14,y14,z14,c14,x15,c15,fun cb hcb=>?_⟩;have kn:=(Keep.refl Nil H).new (o:= .cells ⟨[.int .u32 0,.int .i64 0,.int .i64 0,.slice none 0 0,.int .u32 0,.bool false,.int .u32 0,.bool false,.int .u32 0,.bool false,.bool false,.int .u32 0,.int .u32 0,.slice none 0 0,.slice none 0 0,.bool false]⟩ Zbr (0,0)) hcb;have hB2:Blk (H.upd cb (.cells ⟨[.int .u32 0,.int .i64 0,.int .i64 0,.slice none 0 0,.int .u32 0,.bool false,.int .u32 0,.bool false,.int .u32 0,.bool false,.bool false,.int .u32 0,.int .u32 0,.slice none 0 0,.slice none 0 0,.bool false]⟩ Zbr (0,0))) cb Zbr _:=Blk.upd_eq;generalize H.upd cb (.cells ⟨[.int .u32 0,.int .i64 0,.int .i64 0,.slice none 0 0,.int .u32 0,.bool false,.int .u32 0,.bool false,.int .u32 0,.bool false,.bool false,.int .u32 0,.int .u32 0,.slice none 0 0,.slice none 0 0,.bool false]⟩ Zbr (0,0))=H2 at kn hB2 ⊢;refine Zczh hB2 rfl rfl rfl rfl rfl rfl rfl rfl rfl rfl rfl rfl rfl rfl rfl rfl rfl fun H18 hB18 hK18=>?_;have k18:Keep Nil H H18:=kn.then hK18 fun b hb=> .inr (by rw [hb];exact hcb)
 have v18:=v.quiet hz0 hb1 hb2' k18;have hac:a≠some ⟨cb,0,none⟩:=fun h=>by obtain ⟨cc,hh⟩:=v.own.live h;exact hh.some hcb
 have m2:H18.cell ⟨b2,0,none⟩=some (.int .i64 most):=by simp [Heap.cell,v18.e2,hb2]
 obtain ⟨T7,arr7,hB18,_,a0,a1⟩:=hB18;have g0:=(hB18.cell 0).trans a0;have g1:=(hB18.cell 1).trans a1;refine ⟨[b2],fun b hb=>?_,_,g0,_,g1,by simp,most,m2,(Zcjv hr).mono fun w H19 hk=>?_⟩
 simp at hb;subst hb;exact ⟨_,v18.e2.trans hb2⟩;obtain ⟨k19,rfl⟩:=hk;refine ⟨_,rfl,?_,?_⟩;intro b hb;simp at hb;subst hb;exact ⟨⟨_,v18.e2.trans hb2⟩,k19.same _ (fun h=>h) (by rw [v18.e2];exact hb2')⟩
 have v19:=v18.quiet hz0 hb1 hb2' k19;have hB19:=k19.blk hB18 (fun h=>h);refine IfB.intro (fun hm=>?_) (fun hm=>?_)
 ·rw [if_pos (of_decide_eq_true hm)] at v19;have hcl:H cb=none:=hcb;have hB19':H19 cb≠none:=hB19.some;have hw': ¬W' cb:=fun hw=>v.lv cb (.inr hw) hcl;clear c0 c1 c2 c3 c4 c5 c6 c7 c8 c9 c10 c11 c12 c13 c14 c15;refine Zds.mono (fun w H' hk=>?_) (v19.yield' hb1 hb2');rcases hk with ⟨rfl,Z'',W'',v',same⟩ | ⟨rfl,Z'',W'',hx⟩
  case inr=>exact ⟨false,rfl,ifT rfl (hR H' ⟨_,_,hx⟩)⟩
  refine ⟨true,rfl,ifF rfl ?_⟩;have hB':Blk H' cb T7 arr7:=hB19.same (same cb hB19' hw')
  exact Zbwu (ns:=[]) (n:=0) (cap:=0) (a:=none) v' hz0 hb1 hb2' hr (by simp) hB' a0 a1 (by simp) (fun a' cap' ys' H' hv=>by
   have:=hn _ a' cap' ys' _ _ _ H' (by simp) hv
   simpa using this)
 ·rw [if_neg (of_decide_eq_false hm)] at v19
  exact Zbwu v19 hz0 hb1 hb2' hr (by omega) hB19 a0 a1 hac (fun a' cap' ys' H' hv=>by
   have:=hn _ a' cap' ys' _ _ _ H' (by simp;omega) hv
   simpa using this)
theorem Zcvz {most:Int} {ns:List (UInt32×Int)} {n:Int}:Zin most [] ns n=match ns with | []=>[] | _::_=>[(ns,())]:=by unfold Zin;simp only [YLa,Zlb];cases ns<;>rfl
theorem Zcof {l0:Nat} {Hs:Heap} {Z:Nat->Prop} {b1 b2:Nat} {C:Cons Tryz.prog l0 Zee.ps Hs [b1,b2]} {most:Int} {ns:List (UInt32×Int)} {a:Option Addr} {cap:Nat} {H:Heap} {Z' W':Nat->Prop} {ys:List Value}
  {la:Option Addr} {ln lc:Nat} {n:Int} {next:((Option Addr×Nat×Nat)×Int×Int×Unit)->Heap->Prop} {R:Value->Heap->Prop}
  (hb1:Hs b1≠none) (hb2:Hs b2≠none) (v:PInv Hs Z b1 b2 C (Zin most [] ns n) ns a cap H Z' W' ys)
  (hR: ∀H',(∃Z' W',C.J Z' W' [] H'∨C.X Z' W' H')->R (.tuple ⟨[]⟩) H'):
  Zvb l0 b2 la ln lc a ns.length cap n (ln:Nat) H next R:=by
 unfold Zvb;refine ifF (decide_eq_false (by omega)) ?_
 cases ns with
 | nil=>exact ifF (decide_eq_false (by simp)) (hR H ⟨_,_,.inl v.J⟩)
 | cons p r=>
  refine ifT (decide_eq_true (by simp)) ?_
  rw [Zcvz] at v;refine Zds.mono (fun w H' hk=>?_) (v.yield' hb1 hb2);rcases hk with ⟨rfl,Z'',W'',v',_⟩ | ⟨rfl,Z'',W'',hx⟩;exact ⟨true,rfl,hR H' ⟨_,_,.inl v'.J⟩⟩;exact ⟨false,rfl,hR H' ⟨_,_,.inr hx⟩⟩
theorem Zcnz {Hs:Heap} {Z W:Nat->Prop} {b1 b2:Nat} {T1 T2:TypeId} {l:List Ch} {most:Int} {v1:Value} {l0:Nat} {C:Cons Tryz.prog l0 Zee.ps Hs [b1,b2]} (hb:l.length <= 1000000000) (hs:Zb Z Hs (.lst ksCh) l v1)
  (hb1:Hs b1=some (.cells ⟨[v1]⟩ T1 (0,0))) (hb2:Hs b2=some (.cells ⟨[.int .i64 most]⟩ T2 (0,0))) (hw1: ¬W b1) (hw2: ¬W b2) (hz0: ∀b,Z b->Hs b≠none) (hwl: ∀b,W b->Hs b≠none) (hJ:C.J Z W (Zbec l most) Hs):
  FnW Tryz.prog Zqo ⟨[.func (.yield l0) #[] #[],Zdg b1,Zdg b2]⟩ Hs fun _ H'=>∃Z' W',C.J Z' W' [] H'∨C.X Z' W' H':=by
 have hs0:=hs;simp only [Zb] at hs0;obtain ⟨la,ln,lc,rfl,hln,_⟩:=hs0;have hln':l.length=ln:=hln;have n1:Hs b1≠none:=by rw [hb1];simp
 have n2:Hs b2≠none:=by rw [hb2];simp
 refine Zcup l0 b1 b2 ?_;unfold Zbia
 refine ⟨la,ln,lc,by simp [Heap.cell,hb1],fun k x H=>∃(i:Nat) (ns:List (UInt32×Int)) (a:Option Addr) (cap:Nat) (ys:List Value) (n:Int) (Z' W':Nat->Prop),x=((a,ns.length,cap),(n,((i:Int),())))∧i <= l.length∧k=l.length - i∧ns.length <= i∧PInv Hs Z b1 b2 C (Zin most (l.drop i) ns n) ns a cap H Z' W' ys,l.length,⟨0,[],none,0,[],0,Z,W,rfl,YI _,rfl,Yh _,⟨Go.Sh.Own.nil,by omega,fun t p h=>by simp at h,hJ,rfl,rfl,fun b hb=>⟨hb,rfl⟩,hw1,hw2,fun b h=>(by cases h),fun b hb=>(Or.elim hb (hz0 b) (hwl b)),fun b hb=>hb⟩⟩,?_⟩
 rintro k x H ⟨i,ns,a,cap,ys,n,Z',W',rfl,hi,rfl,hni,v⟩ gE;simp only;rcases Ys i l.length with hlt | hge
 ·refine Zcnb hs hlt hb hni hz0 n1 hb2 v (fun H' hx H2 hsh=>C.shut hsh ?_) (fun ns' a' cap' ys' n' Z'' W'' H' h1 h2=>?_);obtain ⟨Z',W',hx⟩:=hx;exact ⟨Z',W',.inr hx⟩
  ·refine ⟨l.length - (i+1),by omega,i+1,ns',a',cap',ys',n',Z'',W'',?_,by omega,rfl,h1,h2⟩
   rw [Zh (by omega) (by omega)];rfl
 ·have hil:i=l.length:=by omega
  subst hil;rw [List.drop_length] at v;rw [hln'];exact Zcof n1 n2 v (fun H' hx H2 hsh=>C.shut hsh hx)
theorem Zcql:ItOk Tryz.prog Zqo Zee:=by
 intro Hs Z W bs us c l C hpre hnd hlen hval hus hwf hzl hbz hwl hlay hlo hJ;obtain ⟨s,n,cu⟩:=c;have hus':SimL ⟨Z,fun _=>0,fun _=> .nilFunc⟩ Hs 0 [AV.lst ksCh s,.int .i64 n] us:=hus;have two: ∀{A:Type} {l:List A},l.length=2->∃a b,l= [a,b]:=fun {A l} h=>by
  match l,h with
  | [a,b],_=>exact ⟨a,b,rfl⟩
 obtain ⟨v1,v2,rfl⟩:=two (hus'.len).symm;obtain ⟨b1,b2,rfl⟩:=two (l:=bs) (by rw [hlen];rfl)
 simp only [SimL,SimV] at hus';obtain ⟨hs,⟨rfl,hnr⟩,_⟩:=hus';obtain ⟨T1,hb1⟩:=hval 0 b1 v1 rfl rfl;obtain ⟨T2,hb2⟩:=hval 1 b2 _ rfl rfl;exact Zcnz hpre hs hb1 hb2 (hbz b1 (by simp)).2 (hbz b2 (by simp)).2 hzl (fun b hb=>(hwl b hb).1) hJ
end Go.Proofs.YthhcfdpoiganhaaGreat
end
