/-
  Layer 13 over the heap:estimates (how often something was backed off;the rest is left open).
-/
import Derived.Test.YtaljkjokbdpdoaaGreatBA
import Derived.Test.YtaljkjokbdpdoaaGreatEC
import Derived.Test.YtaljkjokbdpdoaaGreatCP
set_option linter.all false
section
set_option maxRecDepth 100000
namespace Go.Pc
open Go.Sh
theorem stL {H:Heap} {b o:Nat} {T:TypeId} {l:List Value} {v:Value} {K:Heap->Prop} (hb:Blk H b T ⟨l⟩) (ho:o<l.length) (hv:Zch v=true) (hk: ∀H',Blk H' b T ⟨l.set o v⟩->Keep (fun x=>x=b) H H'->K H'):Za H ⟨b,o,none⟩ v K:=by
  refine Za.blk hb (by simpa using ho) hv ?_
  have e:(⟨l⟩:Array Value).setIfInBounds o v=⟨l.set o v⟩:=by apply Array.ext';simp
  rw [e];exact hk _ Blk.upd_eq ((Keep.refl _ _).upd (.inl rfl))
theorem cellL {H:Heap} {b:Nat} {T:TypeId} {l:List Value} (hb:Blk H b T ⟨l⟩) (o:Nat) {v:Value} (h:l[o]? =some v):H.cell ⟨b,o,none⟩=some v:=by rw [hb.cell];simpa using h
theorem Zbl {S:Nat->Prop} {H0 H H2:Heap} (k:Keep S H0 H) (hs:Shut H0 H H2):Keep S H0 H2:=
  ⟨fun b hb ha=>by
    rcases hs b with e | ⟨e,_,_⟩;rw [e];exact k.same b hb ha
    . exact absurd e ha,fun b ha=>by
    rcases hs b with e | ⟨e,_,_⟩;rw [e];exact k.live b ha
    . exact absurd e ha⟩
end Go.Pc
namespace Go.Proofs.YtaljkjokbdpdoaaGreat
open Go.Sh Go.Pc Go.Conn
def EAt (H:Heap) (b:Nat) (tries:Nat):Prop:=∃(s v:Int) (any:Bool),Blk H b Zvc ⟨[.int .i64 s,.int .i64 v,.int .i64 tries,.bool any,.bool true]⟩
theorem EAt.keep {S:Nat->Prop} {H H':Heap} {b t:Nat} (h:EAt H b t) (k:Keep S H H') (hs: ¬S b):EAt H' b t:=by obtain ⟨s,v,any,h⟩:=h;exact ⟨s,v,any,k.blk h hs⟩
theorem EAt.shut {H0 H H2:Heap} {b t:Nat} (h:EAt H b t) (hs:Shut H0 H H2):EAt H2 b t:=by obtain ⟨s,v,any,h⟩:=h;exact ⟨s,v,any,Zcb h hs⟩
section
variable {H:Heap} {b t:Nat}
theorem Zf {H H2:Heap} (hs:Shut H H H2):H=H2:=Heap.ext fun b=>by rcases hs b with h | ⟨h1,h2,_⟩;exact h.symm;rw [h1] at h2;cases h2
theorem Zvx (h:EAt H b t):FnW Tryz.prog Zlv ⟨[.pointer (some ⟨b,0,none⟩)]⟩ H fun v H'=>v= .bool true∧H'=H:=by obtain ⟨s,v,any,h⟩:=h;refine Zcey b ?_;unfold Zblj;exact ⟨true,cellL h 4 rfl,fun H2 hs=>⟨rfl,(Zf hs).symm⟩⟩
theorem Zvw (h:EAt H b t):FnW Tryz.prog Zlu ⟨[.pointer (some ⟨b,0,none⟩)]⟩ H fun v H'=>v= .tuple ⟨[]⟩∧EAt H' b 0∧Keep (fun x=>x=b) H H':=by refine Zces b ?_;unfold Zble;refine (Zvx h).mono ?_;rintro _ _ ⟨rfl,rfl⟩;obtain ⟨s,v,any,h⟩:=h;exact ⟨true,rfl,ifT rfl (stL h (by simp) rfl fun H' hb k=>fun H2 hs=>⟨rfl,EAt.shut ⟨s,v,any,hb⟩ hs,Zbl k hs⟩)⟩
theorem Zbut:FnW Tryz.prog Zwa ⟨[]⟩ H fun v H'=>∃b,v= .pointer (some ⟨b,0,none⟩)∧H b=none∧EAt H' b 0∧Keep Nil H H':=by refine Zcac ?_;unfold Zbif;refine NewW.intro fun b hb=>fun H2 hs=>⟨b,rfl,hb,EAt.shut ⟨0,0,false,Blk.upd_eq⟩ hs,Zk ((Keep.refl _ _).new hb) hs⟩
theorem Zbus (h:EAt H b t) (r:Int):FnW Tryz.prog Zyo ⟨[.pointer (some ⟨b,0,none⟩),.int .i64 r]⟩ H fun v H'=>(∃n,v= .int .i64 n)∧EAt H' b t∧Keep (fun x=>x=b) H H':=by
  refine Zckr b r ?_;unfold Zbrf;refine (Zvx h).mono ?_;rintro _ H1 ⟨rfl,e⟩;rw [e];clear e H1;refine ⟨true,rfl,ifF rfl ?_⟩;have same: ∀(n:Int) H2,Shut H H H2->(∃m,Value.int .i64 n= .int .i64 m)∧EAt H2 b t∧Keep (fun x=>x=b) H H2:=fun n H2 hs=>⟨⟨_,rfl⟩,h.shut hs,Zbl (Keep.refl _ _) hs⟩;have key: ∀x,Zur b r x H fun v H'=>∀H2,Shut H H' H2->(∃m,v= .int .i64 m)∧EAt H2 b t∧Keep (fun x=>x=b) H H2:=by
    intro x;unfold Zur;refine IfB.intro (fun _=>same _) fun _=>?_;obtain ⟨s,v,any,h⟩:=h;refine ⟨any,cellL h 3 rfl,IfB.intro (fun _=>⟨by decide,?_⟩) fun _=>⟨s,cellL h 0 rfl,by decide,v,cellL h 1 rfl,v,cellL h 1 rfl,by decide,?_⟩⟩
    exact stL h (by simp) rfl fun H1 h1 k1=>stL h1 (by simp) rfl fun H2 h2 k2=>stL h2 (by simp) rfl fun H3 h3 k3=>fun H4 hs=>⟨⟨_,rfl⟩,EAt.shut ⟨_,_,_,h3⟩ hs,Zbl ((k1.trans k2).trans k3) hs⟩
    exact stL h (by simp) rfl fun H1 h1 k1=>⟨s,cellL h1 0 rfl,s,cellL h1 0 rfl,by decide,stL h1 (by simp) rfl fun H2 h2 k2=>fun H4 hs=>⟨⟨_,rfl⟩,EAt.shut ⟨_,_,_,h2⟩ hs,Zbl (k1.trans k2) hs⟩⟩
  exact IfB.intro (fun _=>key _) fun _=>key _
theorem Zbuu (h:EAt H b t) (ht:t <= 8):FnW Tryz.prog Zxp ⟨[.pointer (some ⟨b,0,none⟩)]⟩ H fun v H'=>(∃n,v= .int .i64 n)∧H'=H:=by
  refine Zcia b ?_;unfold Zbny;refine (Zvx h).mono ?_;rintro _ H1 ⟨rfl,e⟩;rw [e];clear e H1;have fin: ∀n:Int,∀H2,Shut H H H2->(∃m,Value.int .i64 n= .int .i64 m)∧H2=H:=fun n H2 hs=>⟨⟨_,rfl⟩,(Zf hs).symm⟩;obtain ⟨s,v,any,h⟩:=h;refine ⟨true,rfl,ifF rfl ⟨t,cellL h 2 rfl,any,cellL h 3 rfl,IfB.intro (fun _=>⟨s,cellL h 0 rfl,by decide,v,cellL h 1 rfl,?_⟩) fun _=>?_⟩⟩
  . refine ⟨fun k x H'=>H'=H∧x.2.1=(k:Int)∧k <= 8,t,⟨rfl,rfl,ht⟩,?_⟩;rintro k x _ ⟨rfl,hk,h8⟩ g;unfold Zbnw;refine IfB.intro (fun hp=>?_) fun _=>?_
    . have hp:=of_decide_eq_true hp;unfold Zst;refine IfB.intro (fun _=>⟨k - 1,by omega,rfl,?_,by omega⟩) fun _=>fin _
      show IntKind.wrap .i64 (x.2.1 - 1)=_;rw [Zi (by omega) (by omega)];omega
    unfold Zst;exact ifF rfl (fin _)
  . refine ⟨fun k x H'=>H'=H∧x.2.1=(k:Int)∧k <= 8,t,⟨rfl,rfl,ht⟩,?_⟩;rintro k x _ ⟨rfl,hk,h8⟩ g;unfold Zbnx;refine IfB.intro (fun hp=>?_) fun _=>?_
    . have hp:=of_decide_eq_true hp;unfold Zsu;refine IfB.intro (fun _=>⟨k - 1,by omega,rfl,?_,by omega⟩) fun _=>fin _
      show IntKind.wrap .i64 (x.2.1 - 1)=_;rw [Zi (by omega) (by omega)];omega
    unfold Zsu;exact ifF rfl (fin _)
end
end Go.Proofs.YtaljkjokbdpdoaaGreat
end
section
set_option maxRecDepth 100000
namespace Go.Proofs.YtaljkjokbdpdoaaGreat
open Go.Sh Go.Pc Go.Conn
def bv (l:List Int):List Value:=l.map (Value.int .u8)
@[simp] theorem Zcli (l:List Int):(bv l).length=l.length:=by simp [bv]
theorem Zof (a b:List Int):bv (a++b)=bv a++bv b:=by simp [bv]
theorem Zbtq (l:List Int): ∀v∈bv l,Zch v=true:=by intro v hv;obtain ⟨x,_,rfl⟩:=List.mem_map.1 hv;rfl
theorem Zog: ∃it,Tryz.prog.info? Zh=some it∧it.size=1∧it.bytes=1:=by
  have h:(Tryz.prog.info? Zh).map (fun i=>(i.size,i.bytes))=some (1,1):=by kernel_rfl
  cases hi:Tryz.prog.info? Zh with
  | none=>rw [hi] at h;cases h
  | some it=>
    rw [hi] at h;simp only [Option.map_some,Option.some.injEq,Prod.mk.injEq] at h;exact ⟨it,rfl,h.1,h.2⟩
theorem Zgt {H0 H:Heap} {a xb:Option Addr} {n cap k xc:Nat} {xs new:List Int} {K:Value->Heap->Prop} {S:Nat->Prop} (ho:Sh.Own H0 H a n cap 1 Zh (bv xs)) (k0:Keep S H0 H) (hnew:Reads H xb k (bv new)) (hfit:n+k <= 1000000)
    (h: ∀a' cap' H',Sh.Own H0 H' a' (n+k) cap' 1 Zh (bv (xs++new))->(∀b,a'=some ⟨b,0,none⟩->a=some ⟨b,0,none⟩∨H b=none)->Keep (fun b=>a=some ⟨b,0,none⟩) H H'->Keep S H0 H'->K (.slice a' (n+k) cap') H'):
    AppW Tryz.prog #[Zd,Zd] Zd [.slice a n cap,.slice xb k xc] H K:=by
  obtain ⟨it,h1,h2,h3⟩:=Zog;refine Zgj (e:=Zh) (xe:=Zh) (z:=[.int .u8 0]) (by kernel_rfl) (by kernel_rfl) h1 h2 h3 (by decide) (by kernel_rfl) rfl ho k0 (new:=bv new) (by rw [Nat.mul_one];exact hnew) (Zbtq new) (by omega) fun a' cap' H' _ q1 q2 q3 q4=>?_
  rw [← Zof] at q1;exact h a' cap' H' q1 q2 q3 q4
def Zfw (H H':Heap) (v:Value) (l:List Int):Prop:=∃a c,v= .slice a l.length c∧Sh.Own H H' a l.length c 1 Zh (bv l)
theorem Zfw.shut {H0 H1 H H2:Heap} {v:Value} {l:List Int} (h:Zfw H0 H v l) (hs:Shut H1 H H2):Zfw H0 H2 v l:=by obtain ⟨a,c,h1,h2⟩:=h;exact ⟨a,c,h1,Zbn h2 hs⟩
theorem Zbec {H:Heap} {a:Option Addr} {n c:Nat} {l:List Int} (hr:Reads H a n (bv l)) (hn:n <= 1000000):
    FnW Tryz.prog Zph ⟨[.slice a n c]⟩ H fun v H'=>Zfw H H' v l∧Keep Nil H H':=by
  have hl:l.length=n:=by have:=hr.len;simpa using this
  refine Zcfu a n c ?_;unfold Zbmb;cases a with
  | none=>
    have h0:n=0:=hr.2;subst h0;have:l= []:=List.eq_nil_of_length_eq_zero hl;subst this;exact ifT rfl fun H2 hs=>⟨⟨none,0,rfl,Zbn Sh.Own.nil hs⟩,Zk (Keep.refl _ _) hs⟩
  | some a=>
    refine ifF rfl (NewW.intro fun m hm=>?_);have k1:Keep Nil H (H.upd m (.cells ⟨[]⟩ Zh (0,0))):=(Keep.refl _ _).new hm;have hb:Blk (H.upd m (.cells ⟨[]⟩ Zh (0,0))) m Zh ⟨[]⟩:=Blk.upd_eq;generalize H.upd m (.cells ⟨[]⟩ Zh (0,0))=H1 at k1 hb;refine Zgt (xs:=[]) (new:=l) (Sh.Own.start hm hb) k1 (hr.keep k1 fun _ _ h=>h) (by omega) fun a' cap' H' q1 q2 q3 q4=>?_
    refine ⟨a',0+n,cap',rfl,fun H2 hs=>⟨⟨a',cap',?_,?_⟩,Zk q4 hs⟩⟩;rw [Nat.zero_add,hl];rw [hl];rw [Nat.zero_add] at q1;exact Zbn q1 hs
end Go.Proofs.YtaljkjokbdpdoaaGreat
end
section
set_option maxRecDepth 100000
namespace Go.Proofs.YtaljkjokbdpdoaaGreat
open Go.Sh Go.Pc Go.Conn
def emp:Heap:=⟨fun _=>none,0,fun _ _=>rfl⟩
def ringAt (first i:Nat):Nat:=(first+i)%4096
structure JRep (H:Heap) (b rb hb:Nat) (ra:Option Addr) (rc first:Nat) (j:Jn):Prop where
  ok:j.Ok
  lt:first<4096
  blk: ∃held:Int,Blk H b Zhr ⟨[.int .u32 j.next,.int .i64 first,.slice (some ⟨rb,0,none⟩) 4096 4096,.slice (some ⟨hb,0,none⟩) 4096 4096,.int .i64 held,.slice ra j.rdy.length rc]⟩
  ring: ∃c:Array Value,Blk H rb Zh c∧c.size=4096∧(∀i x,i<4096->j.held i=some x->c[ringAt first i]? =some (.int .u8 x))∧∀k,k<4096->∃x,c[k]? =some (.int .u8 x)
  has: ∃c:Array Value,Blk H hb Zbs c∧c.size=4096∧∀i,i<4096->c[ringAt first i]? =some (.bool (j.held i).isSome)
  rdy:Sh.Own emp H ra j.rdy.length rc 1 Zh (bv j.rdy)
  apart:ra≠some ⟨rb,0,none⟩
def JFt (b rb hb:Nat) (ra:Option Addr):Nat->Prop:=fun x=>x=b∨x=rb∨x=hb∨ra=some ⟨x,0,none⟩
section
variable {H H':Heap} {b rb hb rc first:Nat} {ra:Option Addr} {j:Jn}
theorem JRep.live (h:JRep H b rb hb ra rc first j) {x:Nat} (hx:JFt b rb hb ra x):H x≠none:=by rcases hx with rfl | rfl | rfl | hx;obtain ⟨_,h⟩:=h.blk;exact h.some;obtain ⟨_,h,_⟩:=h.ring;exact h.some;obtain ⟨_,h,_⟩:=h.has;exact h.some;obtain ⟨c,h⟩:=h.rdy.live hx;exact h.some
theorem JRep.keep {S:Nat->Prop} (h:JRep H b rb hb ra rc first j) (k:Keep S H H') (hs: ∀x,JFt b rb hb ra x->¬S x):JRep H' b rb hb ra rc first j:=by obtain ⟨n,h1⟩:=h.blk;obtain ⟨c,h2,h3⟩:=h.ring;obtain ⟨d,h4,h5⟩:=h.has;exact ⟨h.ok,h.lt,⟨n,k.blk h1 (hs _ (.inl rfl))⟩,⟨c,k.blk h2 (hs _ (.inr (.inl rfl))),h3⟩,⟨d,k.blk h4 (hs _ (.inr (.inr (.inl rfl)))),h5⟩,h.rdy.keep k fun x hx=>hs x (.inr (.inr (.inr hx))),h.apart⟩
theorem JRep.shut {H0:Heap} (h:JRep H b rb hb ra rc first j) (hs:Shut H0 H H'):JRep H' b rb hb ra rc first j:=by obtain ⟨n,h1⟩:=h.blk;obtain ⟨c,h2,h3⟩:=h.ring;obtain ⟨d,h4,h5⟩:=h.has;exact ⟨h.ok,h.lt,⟨n,Zcb h1 hs⟩,⟨c,Zcb h2 hs,h3⟩,⟨d,Zcb h4 hs,h5⟩,Zbn h.rdy hs,h.apart⟩
theorem JRep.ne (h:JRep H b rb hb ra rc first j):b≠rb∧b≠hb∧rb≠hb∧ra≠some ⟨b,0,none⟩∧ra≠some ⟨hb,0,none⟩:=by
  obtain ⟨n,h1⟩:=h.blk;obtain ⟨c,h2,_⟩:=h.ring;obtain ⟨d,h4,_⟩:=h.has;have ty: ∀{x:Nat} {T T':TypeId} {c c':Array Value},Blk H x T c->Blk H x T' c'->T=T':=fun h h'=>by
    unfold Blk at h h';rw [h] at h';injection h' with h'
    injection h' with _ h' _
  refine ⟨fun e=>?_,fun e=>?_,fun e=>?_,fun e=>?_,fun e=>?_⟩;subst e;exact absurd (ty h1 h2) (by decide)
  subst e;exact absurd (ty h1 h4) (by decide)
  subst e;exact absurd (ty h2 h4) (by decide)
  obtain ⟨c',h6⟩:=h.rdy.live e;exact absurd (ty h1 h6) (by decide)
  obtain ⟨c',h6⟩:=h.rdy.live e;exact absurd (ty h4 h6) (by decide)
theorem Zqt (h:JRep H b rb hb ra rc first j):FnW Tryz.prog Zez ⟨[.pointer (some ⟨b,0,none⟩)]⟩ H fun v H'=>v= .bool true∧H'=H:=by obtain ⟨n,h1⟩:=h.blk;refine Zcfk b ?_;unfold Zbbu;exact ⟨_,_,_,cellL h1 2 rfl,fun H2 hs=>⟨rfl,(Zf hs).symm⟩⟩
theorem Zbvw (h:JRep H b rb hb ra rc first j):FnW Tryz.prog Zib ⟨[.pointer (some ⟨b,0,none⟩)]⟩ H fun v H'=>v= .int .u32 j.next∧H'=H:=by refine Zcho b ?_;unfold Zbbx;refine (Zqt h).mono ?_;rintro _ H1 ⟨rfl,e⟩;rw [e];obtain ⟨n,h1⟩:=h.blk;exact ⟨true,rfl,ifF rfl ⟨_,cellL h1 0 rfl,fun H2 hs=>⟨rfl,(Zf hs).symm⟩⟩⟩
theorem Zzl (h:JRep H b rb hb ra rc first j):FnW Tryz.prog Zlq ⟨[.pointer (some ⟨b,0,none⟩)]⟩ H fun v H'=>v= .int .i64 j.win∧H'=H:=by
  refine Zcen b ?_;unfold Zbky;refine (Zqt h).mono ?_;rintro _ H1 ⟨rfl,e⟩;rw [e];obtain ⟨n,h1⟩:=h.blk;have hl:=h.ok.len;refine ⟨true,rfl,ifF rfl ⟨_,_,_,cellL h1 2 rfl,_,_,_,cellL h1 5 rfl,fun H2 hs=>⟨?_,(Zf hs).symm⟩⟩⟩;unfold Jn.win;rw [Zi (by omega) (by omega)]
  congr 1;omega
theorem Zbvx (h:JRep H b rb hb ra rc first j):FnW Tryz.prog Zjq ⟨[.pointer (some ⟨b,0,none⟩)]⟩ H fun v H'=>v= .int .i64 j.rdy.length∧H'=H:=by refine Zchu b ?_;unfold Zbbz;refine (Zqt h).mono ?_;rintro _ H1 ⟨rfl,e⟩;rw [e];obtain ⟨n,h1⟩:=h.blk;exact ⟨true,rfl,ifF rfl ⟨_,_,_,cellL h1 5 rfl,fun H2 hs=>⟨rfl,(Zf hs).symm⟩⟩⟩
theorem Zbwa (h:JRep H b rb hb ra rc first j) {i:Nat} (hi:i <= 100000):FnW Tryz.prog Zll ⟨[.pointer (some ⟨b,0,none⟩),.int .i64 i]⟩ H fun v H'=>v= .int .i64 (ringAt first i)∧H'=H:=by
  obtain ⟨n,h1⟩:=h.blk;have hf:=h.lt;refine Zbjy b i ?_;unfold Zbbo;refine ⟨_,cellL h1 1 rfl,_,_,_,cellL h1 2 rfl,by decide,fun H2 hs=>⟨?_,(Zf hs).symm⟩⟩
  rw [Zi (by omega) (by omega),Int.tmod_eq_emod_of_nonneg (by omega)]
  unfold ringAt;congr 1
end
end Go.Proofs.YtaljkjokbdpdoaaGreat
end
section
set_option maxRecDepth 100000
namespace Go.Conn
def Jn.hold1 (j:Jn) (i:Nat) (x:Int):Jn:={ j with held:=fun t=>if t=i then (j.held i).or (some x) else j.held t }
end Go.Conn
namespace Go.Proofs.YtaljkjokbdpdoaaGreat
open Go.Sh Go.Pc Go.Conn
theorem Zbap (first i:Nat):ringAt first i<4096:=Nat.mod_lt _ (by decide)
theorem Zbao {first i k:Nat} (hi:i<4096) (hk:k<4096) (h:ringAt first i=ringAt first k):i=k:=by unfold ringAt at h;omega
section
variable {H H':Heap} {b rb hb rc first:Nat} {ra:Option Addr} {j:Jn}
theorem Zru {c:Array Value} {k t:Nat} {v:Value} (hk:k<c.size):(c.setIfInBounds k v)[t]? =if t=k then some v else c[t]? :=by by_cases e:t=k;subst e;rw [if_pos rfl,Array.getElem?_setIfInBounds_self_of_lt hk];rw [if_neg e,Array.getElem?_setIfInBounds_ne (fun h=>e h.symm)]
theorem Zbvy (h:JRep H b rb hb ra rc first j) {i:Nat} {x:Int} (hi:i+j.rdy.length<4096):FnW Tryz.prog Zxk ⟨[.pointer (some ⟨b,0,none⟩),.int .i64 i,.int .u8 x]⟩ H fun v H'=>v= .tuple ⟨[]⟩∧JRep H' b rb hb ra rc first (j.hold1 i x)∧Keep (fun y=>y=b∨y=rb∨y=hb) H H':=by
  have hne:=h.ne;refine Zchi b i x ?_;unfold Zbnh;refine (Zbwa h (by omega)).mono ?_
  rintro _ H1 ⟨rfl,e⟩;rw [e];clear e H1;have hlt:=Zbap first i
  obtain ⟨n,h1⟩:=h.blk;obtain ⟨d,h4,h5,h6⟩:=h.has;obtain ⟨c,h2,h3,h3a,h3b⟩:=h.ring;refine ⟨_,rfl,_,_,_,cellL h1 3 rfl,NilP.intro _ rfl (InB.intro (ringAt first i) rfl hlt ?_)⟩
  rw [Zw];refine ⟨(j.held i).isSome,by rw [h4.cell];simpa using h6 i (by omega),?_⟩
  cases ho:j.held i with
  | some y=>
    refine ifF rfl fun H2 hs=>⟨rfl,?_,Zbl (Keep.refl _ _) hs⟩;have:j.hold1 i x=j:=by
      unfold Jn.hold1;have:(fun t=>if t=i then (j.held i).or (some x) else j.held t)=j.held:=by funext t;by_cases e:t=i;subst e;rw [if_pos rfl,ho];rfl;rw [if_neg e]
      rw [this]
    rw [this];exact h.shut hs
  | none=>
    refine ifT rfl ⟨_,_,_,cellL h1 2 rfl,_,_,_,cellL h1 3 rfl,NilP.intro _ rfl (InB.intro (ringAt first i) rfl hlt ?_)⟩
    rw [Zw];refine Za.blk h2 (by rw [h3];omega) rfl ?_
    have k1:Keep (fun y=>y=rb) H (H.upd rb (.cells (c.setIfInBounds (0+ringAt first i*1) (.int .u8 x)) Zh (0,0))):=(Keep.refl _ _).upd (.inl rfl)
    have b1:Blk (H.upd rb (.cells (c.setIfInBounds (0+ringAt first i*1) (.int .u8 x)) Zh (0,0))) rb Zh (c.setIfInBounds (0+ringAt first i*1) (.int .u8 x)):=Blk.upd_eq
    generalize H.upd rb (.cells (c.setIfInBounds (0+ringAt first i*1) (.int .u8 x)) Zh (0,0))=H1 at k1 b1 ⊢
    refine NilP.intro _ rfl (InB.intro (ringAt first i) rfl hlt ?_)
    rw [Zw];refine Za.blk (k1.blk h4 fun e=>hne.2.2.1 e.symm) (by rw [h5];omega) rfl ?_
    have k2:Keep (fun y=>y=hb) H1 (H1.upd hb (.cells (d.setIfInBounds (0+ringAt first i*1) (.bool true)) Zbs (0,0))):=(Keep.refl _ _).upd (.inl rfl)
    have b2:Blk (H1.upd hb (.cells (d.setIfInBounds (0+ringAt first i*1) (.bool true)) Zbs (0,0))) hb Zbs (d.setIfInBounds (0+ringAt first i*1) (.bool true)):=Blk.upd_eq
    generalize H1.upd hb (.cells (d.setIfInBounds (0+ringAt first i*1) (.bool true)) Zbs (0,0))=H2 at k2 b2 ⊢
    have b1':=k2.blk b1 fun e=>hne.2.2.1 e;have h1':=k2.blk (k1.blk h1 fun e=>hne.1 e) fun e=>hne.2.1 e;refine ⟨n,cellL h1' 4 rfl,stL h1' (by simp) rfl fun H3 h3' k3=>?_⟩
    have kk:Keep (fun y=>y=b∨y=rb∨y=hb) H H3:=((k1.mono fun y e=> .inr (.inl e)).trans (k2.mono fun y e=> .inr (.inr e))).trans (k3.mono fun y e=> .inl e);intro H4 hs;refine ⟨rfl,JRep.shut ?_ hs,Zbl kk hs⟩;have e0:0+ringAt first i*1=ringAt first i:=by omega
    rw [e0] at b1' b2;refine ⟨⟨h.ok.next,h.ok.len,fun t ht=>?_⟩,h.lt,⟨_,h3'⟩,⟨_,k3.blk b1' fun e=>hne.1 e.symm,by simp [h3],fun t y ht hy=>?_,fun k hk=>?_⟩,⟨_,k3.blk b2 fun e=>hne.2.1 e.symm,by simp [h5],fun t ht=>?_⟩,?_,h.apart⟩
    . show t+j.rdy.length<4096;by_cases e:t=i;subst e;exact hi
      . have ht:(if t=i then (j.held i).or (some x) else j.held t)≠none:=ht
        rw [if_neg e] at ht;exact h.ok.held t ht
    . have hy:(if t=i then (j.held i).or (some x) else j.held t)=some y:=hy
      rw [Zru (by rw [h3];omega)]
      by_cases e:t=i;subst e;rw [if_pos rfl,ho] at hy;cases hy;rw [if_pos rfl]
      . rw [if_neg e] at hy;rw [if_neg fun x=>e (Zbao ht (by omega) x)]
        exact h3a t y ht hy
    . rw [Zru (by rw [h3];omega)]
      split;exact ⟨_,rfl⟩;exact h3b k hk
    . rw [Zru (by rw [h5];omega)]
      show _=some (Value.bool (if t=i then (j.held i).or (some x) else j.held t).isSome)
      by_cases e:t=i;subst e;rw [if_pos rfl,if_pos rfl,ho];rfl
      . rw [if_neg e,if_neg fun x=>e (Zbao ht (by omega) x)]
        exact h6 t ht
    . exact h.rdy.keep kk fun y hy e=>by rcases e with e | e | e;exact hne.2.2.2.1 (e▸hy);exact h.apart (e▸hy);exact hne.2.2.2.2 (e▸hy)
end
end Go.Proofs.YtaljkjokbdpdoaaGreat
end
section
set_option maxRecDepth 100000
namespace Go.Proofs.YtaljkjokbdpdoaaGreat
open Go.Sh Go.Pc Go.Conn
section
variable {H H':Heap} {b rb hb rc first:Nat} {ra:Option Addr} {j:Jn}
theorem Zbya {v0 v3 v4 v5:Value} (h1:Blk H b Zhr ⟨[v0,.int .i64 first,.slice (some ⟨rb,0,none⟩) 4096 4096,v3,v4,v5]⟩) (hf:first<4096) {i:Nat} (hi:i <= 100000):FnW Tryz.prog Zll ⟨[.pointer (some ⟨b,0,none⟩),.int .i64 i]⟩ H fun v H'=>v= .int .i64 (ringAt first i)∧H'=H:=by
  refine Zbjy b i ?_;unfold Zbbo;refine ⟨_,cellL h1 1 rfl,_,_,_,cellL h1 2 rfl,by decide,fun H2 hs=>⟨?_,(Zf hs).symm⟩⟩
  rw [Zi (by omega) (by omega),Int.tmod_eq_emod_of_nonneg (by omega)]
  unfold ringAt;congr 1
theorem wrap_u32 (n:Nat):IntKind.wrap .u32 ((n:Int)+1)=((addN n 1:Nat):Int):=by rw [Zde];show ((n:Int)+1)%4294967296=_;omega
theorem Zbia {first i:Nat}:ringAt (ringAt first 1) i=ringAt first (i+1):=by unfold ringAt;omega
theorem Zbws (h:JRep H b rb hb ra rc first j) {x:Int} (hx:j.held 0=some x) {n:Int} {K:Int×Unit->Heap->Prop} {R:Value->Heap->Prop}
    (hk: ∀H' ra' rc',JRep H' b rb hb ra' rc' (ringAt first 1) (j.step x)->Keep (JFt b rb hb ra) H H'->(∀y,ra'=some ⟨y,0,none⟩->ra=some ⟨y,0,none⟩∨H y=none)->∀m,K (m,()) H'):Zuq b n H K R:=by
  have hne:=h.ne;have hi:0+j.rdy.length<4096:=h.ok.held 0 (by rw [hx];simp)
  have hf:=h.lt;have hr0:ringAt first 0=first:=by unfold ringAt;omega
  obtain ⟨m,h1⟩:=h.blk;obtain ⟨d,h4,h5,h6⟩:=h.has;obtain ⟨c,h2,h3,h3a,h3b⟩:=h.ring;unfold Zuq;refine ⟨_,_,_,cellL h1 3 rfl,_,cellL h1 1 rfl,NilP.intro _ rfl (InB.intro first rfl hf ?_)⟩
  rw [Zw];refine ⟨true,?_,ifF rfl ⟨_,_,_,cellL h1 5 rfl,_,_,_,cellL h1 2 rfl,_,cellL h1 1 rfl,NilP.intro _ rfl (InB.intro first rfl hf ?_)⟩⟩
  . have:=h6 0 (by omega)
    rw [hr0,hx] at this;rw [h4.cell];simpa using this
  rw [Zw];refine ⟨x,?_,NewW.intro fun q hq=>?_⟩
  . have:=h3a 0 x (by omega) hx
    rw [hr0] at this;rw [h2.cell];simpa using this
  have k1:Keep Nil H (H.upd q (.cells ⟨[.int .u8 x]⟩ Zh (0,0))):=(Keep.refl _ _).new hq;have bq:Blk (H.upd q (.cells ⟨[.int .u8 x]⟩ Zh (0,0))) q Zh ⟨[.int .u8 x]⟩:=Blk.upd_eq;generalize H.upd q (.cells ⟨[.int .u8 x]⟩ Zh (0,0))=H1 at k1 bq ⊢;have o1:=h.rdy.keep k1 fun _ _ h=>h;have ke:Keep (fun _=>True) emp H1:=⟨fun y hy=>absurd trivial hy,fun y hy=>absurd rfl hy⟩;refine Zgt (S:=fun _=>True) (new:=[x]) o1 ke (Reads.blk bq rfl fun t ht=>by rw [Nat.zero_add];simp [bv]) (by omega) fun a' c' H2 o2 hnew k2 _=>?_
  have hr1: ∀y,a'=some ⟨y,0,none⟩->y≠b∧y≠rb∧y≠hb:=fun y hy=>by rcases hnew y hy with e | e;exact ⟨fun z=>hne.2.2.2.1 (z▸e),fun z=>h.apart (z▸e),fun z=>hne.2.2.2.2 (z▸e)⟩;exact ⟨fun z=>(k1.live b h1.some) (z▸e),fun z=>(k1.live rb h2.some) (z▸e),fun z=>(k1.live hb h4.some) (z▸e)⟩
  have n1: ¬ra=some ⟨b,0,none⟩:=hne.2.2.2.1;have n2: ¬ra=some ⟨rb,0,none⟩:=h.apart;have n3: ¬ra=some ⟨hb,0,none⟩:=hne.2.2.2.2;have b1:=k2.blk (k1.blk h1 fun z=>z) n1;have b2:=k2.blk (k1.blk h2 fun z=>z) n2;have b3:=k2.blk (k1.blk h4 fun z=>z) n3;refine ⟨a',_,c',rfl,stL b1 (by simp) rfl fun H3 c1 k3=>?_⟩
  have c2:=k3.blk b2 fun z=>hne.1 z.symm;have c3:=k3.blk b3 fun z=>hne.2.1 z.symm;refine ⟨_,_,_,cellL c1 3 rfl,_,cellL c1 1 rfl,NilP.intro _ rfl (InB.intro first rfl hf ?_)⟩
  rw [Zw];refine Za.blk c3 (by rw [h5];omega) rfl ?_
  have k4:Keep (fun y=>y=hb) H3 (H3.upd hb (.cells (d.setIfInBounds (0+first*1) (.bool false)) Zbs (0,0))):=(Keep.refl _ _).upd (.inl rfl)
  have d3:Blk (H3.upd hb (.cells (d.setIfInBounds (0+first*1) (.bool false)) Zbs (0,0))) hb Zbs (d.setIfInBounds (0+first*1) (.bool false)):=Blk.upd_eq
  generalize H3.upd hb (.cells (d.setIfInBounds (0+first*1) (.bool false)) Zbs (0,0))=H4 at k4 d3 ⊢
  have d1:=k4.blk c1 fun z=>hne.2.1 z;have d2:=k4.blk c2 fun z=>hne.2.2.1 z;refine (Zbya d1 hf (i:=1) (by omega)).mono ?_
  rintro _ H5 ⟨rfl,e⟩;rw [e];clear e H5;refine ⟨_,rfl,stL d1 (by simp) rfl fun H5 e1 k5=>⟨m,cellL e1 4 rfl,stL e1 (by simp) rfl fun H6 f1 k6=>⟨_,cellL f1 0 rfl,stL f1 (by simp) rfl fun H7 g1 k7=>?_⟩⟩⟩
  rw [wrap_u32] at g1;have kb:Keep (fun y=>y=b) H4 H7:=(k5.trans k6).trans k7;have g2:=kb.blk d2 fun z=>hne.1 z.symm;have g3:=kb.blk d3 fun z=>hne.2.1 z.symm;have e0:0+first*1=first:=by omega
  rw [e0] at g3;have o3:=((o2.keep k3 fun y hy=>(hr1 y hy).1).keep k4 fun y hy=>(hr1 y hy).2.2).keep kb fun y hy=>(hr1 y hy).1;refine hk H7 a' c' ⟨⟨Zbb _ _,?_,fun i hi2=>?_⟩,Zbap _ _,⟨IntKind.wrap .i64 (m - 1),?_⟩,⟨c,g2,h3,fun i y hi2 hy=>?_,h3b⟩,⟨_,g3,by simp [h5],fun i hi2=>?_⟩,?_,fun e=>(hr1 rb e).2.1 rfl⟩ ?_ ?_ _
  show (j.rdy++[x]).length <= 4096;rw [List.length_append];simp;omega;have:=h.ok.held (i+1) hi2;show i+(j.rdy++[x]).length<4096;rw [List.length_append];simp;omega
  . have:(j.step x).rdy.length=j.rdy.length+1:=by show (j.rdy++[x]).length=_;simp
    rw [this];exact g1
  . rw [Zbia];by_cases h7:i+1<4096;exact h3a (i+1) y h7 hy
    . have hy:j.held (i+1)=some y:=hy;have:=h.ok.held (i+1) (by rw [hy];simp)
      omega
  . rw [Zbia,Zru (by rw [h5];omega)]
    show _=some (Value.bool (j.held (i+1)).isSome);by_cases h7:i+1<4096
    . rw [if_neg fun z=>by have:=Zbao (first:=first) h7 (by omega:0<4096) (z.trans hr0.symm);omega]
      exact h6 (i+1) h7
    . have e8:ringAt first (i+1)=first:=by unfold ringAt;omega
      rw [if_pos e8];cases hh:j.held (i+1) with
      | none=>rfl
      | some y=>
        have:=h.ok.held (i+1) (by rw [hh];simp)
        omega
  . have:(j.step x).rdy.length=j.rdy.length+1:=by show (j.rdy++[x]).length=_;simp
    rw [this];exact o3
  refine (((((k1.mono fun _ z=>z.elim).trans (k2.mono fun y z=> .inr (.inr (.inr z)))).trans (k3.mono fun y z=> .inl z)).trans (k4.mono fun y z=> .inr (.inr (.inl z)))).trans (kb.mono fun y z=> .inl z));intro y hy;rcases hnew y hy with e | e;exact .inl e;exact .inr (k1.free e)
def Zej (H H':Heap) (b rb hb:Nat) (ra ra':Option Addr):Prop:=Keep (JFt b rb hb ra) H H'∧∀y,ra'=some ⟨y,0,none⟩->ra=some ⟨y,0,none⟩∨H y=none
theorem Zej.trans {H2:Heap} {ra1 ra2:Option Addr} (h:Zej H H' b rb hb ra ra1) (k:Zej H' H2 b rb hb ra1 ra2):Zej H H2 b rb hb ra ra2:=by refine ⟨h.1.then k.1 fun y hy=>?_,fun y hy=>?_⟩;rcases hy with e | e | e | e;exact .inl (.inl e);exact .inl (.inr (.inl e));exact .inl (.inr (.inr (.inl e)));exact (h.2 y e).imp (fun z=> .inr (.inr (.inr z))) id;rcases k.2 y hy with e | e;exact h.2 y e;exact .inr (h.1.free e)
theorem Zbvz (h:JRep H b rb hb ra rc first j):FnW Tryz.prog Zyn ⟨[.pointer (some ⟨b,0,none⟩)]⟩ H fun v H'=>(∃n,v= .int .i64 n)∧∃ra' rc' first',JRep H' b rb hb ra' rc' first' (j.move 4096)∧Zej H H' b rb hb ra ra':=by
  refine Zckq b ?_;unfold Zbre;refine ⟨fun k _ Hc=>∃ra' rc' first' j',JRep Hc b rb hb ra' rc' first' j'∧j.move 4096=j'.move k∧4096 <= k+j'.rdy.length∧Zej H Hc b rb hb ra ra',4096,⟨ra,rc,first,j,h,rfl,by omega,Keep.refl _ _,fun y hy=> .inl hy⟩,?_⟩
  rintro k ⟨n,u⟩ Hc ⟨ra',rc',first',j',h',hm,hl,hs⟩ g;cases hx:j'.held 0 with
  | some x=>
    have hi:=h'.ok.held 0 (by rw [hx];simp)
    obtain ⟨k,rfl⟩: ∃q,k=q+1:=⟨k - 1,by omega⟩
    have hm2:j'.move (k+1)=(j'.step x).move k:=by simp only [Jn.move,hx]
    refine Zbws h' hx fun H2 ra2 rc2 h2 k2 n2 m=>⟨k,by omega,ra2,rc2,_,_,h2,hm.trans hm2,?_,hs.trans ⟨k2,n2⟩⟩
    show 4096 <= k+(j'.rdy++[x]).length;rw [List.length_append];simp;omega
  | none=>
    have hm2:j'.move k=j':=by
      cases k with
      | zero=>rfl
      | succ k=>simp only [Jn.move,hx]
    rw [hm2] at hm;have hr0:ringAt first' 0=first':=by have:=h'.lt;unfold ringAt;omega
    obtain ⟨m,h1⟩:=h'.blk;obtain ⟨d,h4,h5,h6⟩:=h'.has;unfold Zuq;refine ⟨_,_,_,cellL h1 3 rfl,_,cellL h1 1 rfl,NilP.intro _ rfl (InB.intro first' rfl h'.lt ?_)⟩;rw [Zw];refine ⟨false,?_,ifT rfl fun H2 hsh=>⟨⟨_,rfl⟩,ra',rc',first',by rw [hm];exact h'.shut hsh,Zbl hs.1 hsh,hs.2⟩⟩
    have:=h6 0 (by omega)
    rw [hr0,hx] at this;rw [h4.cell];simpa using this
end
end Go.Proofs.YtaljkjokbdpdoaaGreat
end
section
set_option maxRecDepth 100000
namespace Go.Proofs.YtaljkjokbdpdoaaGreat
open Go.Sh Go.Pc Go.Conn
section
variable {H:Heap}
theorem w32 (z:Int):IntKind.wrap .u32 z=z%4294967296:=rfl
theorem Ziq {a b:Nat} (ha:a<4294967296) (hb:b<4294967296):FnW Tryz.prog Zgb ⟨[.int .u32 a,.int .u32 b]⟩ H fun v H'=>v= .int .u32 (wayN a b)∧H'=H:=by refine Zcav a b ?_;unfold Zbio;refine fun H2 hs=>⟨?_,(Zf hs).symm⟩;rw [w32,Zfq];congr 1;omega
theorem Zee {a n:Nat} (ha:a<4294967296):FnW Tryz.prog Zdl ⟨[.int .u32 a,.int .i64 n]⟩ H fun v H'=>v= .int .u32 (addN a n)∧H'=H:=by refine Zcau a n ?_;unfold Zbin;refine fun H2 hs=>⟨?_,(Zf hs).symm⟩;rw [w32,w32,Zde];congr 1;omega
theorem Znc (a b:Nat):wayN a b<4294967296:=by rw [Zfq];omega
theorem Zbjx {n:Nat}:FnW Tryz.prog Zoo ⟨[.int .i64 n]⟩ H fun v H'=>v= .bool (decide (n <= 65535))∧H'=H:=by
  refine Zcds n ?_;unfold Zbjw;refine ifT (decide_eq_true (by omega)) fun H2 hs=>⟨?_,(Zf hs).symm⟩
  congr 1;exact decide_eq_decide.2 (by omega)
theorem Zbjv {n k:Nat}:FnW Tryz.prog Zon ⟨[.int .i64 n,.int .i64 k]⟩ H fun v H'=>v= .bool (decide (n <= 65535∧k <= 1073741824))∧H'=H:=by
  refine Zcdr n k ?_;unfold Zbju;refine Zbjx.mono ?_;rintro _ H1 ⟨rfl,e⟩;rw [e];refine ⟨_,rfl,IfB.intro (fun h1=>ifT (decide_eq_true (by omega)) fun H2 hs=>⟨?_,(Zf hs).symm⟩) fun h1 H2 hs=>⟨?_,(Zf hs).symm⟩⟩
  have h1:=of_decide_eq_true h1;congr 1;exact decide_eq_decide.2 (by omega)
  have h1:=of_decide_eq_false h1;congr 1;exact (decide_eq_false (by omega)).symm
theorem Zbcq {a f n:Nat} (ha:a<4294967296) (hf:f<4294967296):FnW Tryz.prog Zme ⟨[.int .u32 a,.int .u32 f,.int .i64 n]⟩ H fun v H'=>v= .bool (Zei a f n)∧H'=H:=by
  refine Zckg a f n ?_;unfold Zbqt;refine Zbjx.mono ?_;rintro _ H1 ⟨rfl,e⟩;rw [e];refine ⟨_,rfl,IfB.intro (fun h1=>(Ziq hf ha).mono ?_) fun h1 H2 hs=>⟨?_,(Zf hs).symm⟩⟩;have h1:=of_decide_eq_true h1;rintro _ H1 ⟨rfl,e⟩;rw [e];refine ⟨_,rfl,fun H2 hs=>⟨?_,(Zf hs).symm⟩⟩;unfold Zei;rw [decide_eq_true h1,Bool.true_and,w32];congr 1;exact decide_eq_decide.2 (by omega)
  unfold Zei;rw [h1];rfl
theorem Zcjy {next size f n:Nat} (h1:next<4294967296) (h2:f<4294967296) (h3:size <= 65535) (h4:n <= 1073741824):FnW Tryz.prog Zyh ⟨[.int .u32 next,.int .i64 size,.int .u32 f,.int .i64 n]⟩ H fun v H'=>v= .tuple ⟨[.int .i64 (Zbm next size f n).1,.int .i64 (Zbm next size f n).2,.int .i64 0]⟩∧H'=H:=by
  refine Zcjx next size f n ?_
  unfold Zbqh;refine Zbjv.mono ?_;rintro _ H1 ⟨rfl,e⟩;rw [e];refine ⟨_,rfl,ifF (by simp;omega) ((Ziq h1 h2).mono ?_)⟩
  rintro _ H1 ⟨rfl,e⟩;rw [e];refine ⟨_,rfl,(Ziq h2 h1).mono ?_⟩;rintro _ H1 ⟨rfl,e⟩;rw [e];have k1:=Znc next f
  have k2:=Znc f next
  have e1:IntKind.wrap .i64 ((wayN f next:Nat):Int)=wayN f next:=Zi (by omega) (by omega)
  have e2:IntKind.wrap .i64 ((wayN next f:Nat):Int)=wayN next f:=Zi (by omega) (by omega)
  have e3:IntKind.wrap .u32 (size:Int)=size:=by rw [w32];omega
  refine ⟨_,rfl,?_⟩;rw [e1,e2,e3];unfold Zbm;rw [if_neg (by omega)]
  refine IfB.intro (fun h5 H2 hs=>⟨?_,(Zf hs).symm⟩) fun h5=>IfB.intro (fun h6=>?_) fun h6=>?_
  . have h5:=of_decide_eq_true h5;rw [if_pos (by omega),Zi (by omega) (by omega)]
    congr 3;congr 2;omega
  . have h5:=of_decide_eq_false h5;have h6:=of_decide_eq_true h6;unfold Zue;refine ifT rfl fun H2 hs=>⟨?_,(Zf hs).symm⟩;rw [if_neg (by omega),if_pos (.inl (by omega))];rfl
  . have h5:=of_decide_eq_false h5;have h6:=of_decide_eq_false h6;unfold Zue;refine IfB.intro (fun h7 H2 hs=>⟨?_,(Zf hs).symm⟩) fun h7 H2 hs=>⟨?_,(Zf hs).symm⟩
    . have h7:(size:Int)=0:=by simpa using h7
      rw [if_neg (by omega),if_pos (.inr (by omega))];rfl
    . have h7:(size:Int)≠0:=by simpa using h7
      rw [if_neg (by omega),if_neg (by omega),e1,Zi (by omega) (by omega)]
      congr 3;congr 2;omega
theorem Zcjs {next size f n:Nat} (h1:next<4294967296) (h2:f<4294967296) (h3:size <= 65535) (h4:n <= 1073741824):FnW Tryz.prog Zye ⟨[.int .u32 next,.int .i64 size,.int .u32 f,.int .i64 n]⟩ H fun v H'=>v= .tuple ⟨[.bool (Zcy next size f n),.int .i64 0]⟩∧H'=H:=by
  refine Zcjr next size f n ?_
  unfold Zbqc;refine Zbjv.mono ?_;rintro _ H1 ⟨rfl,e⟩;rw [e];refine ⟨_,rfl,ifF (by simp;omega) ?_⟩
  have key: ∀x:Bool,(x=true->n=0∧size=0)->(x=false->¬(n=0∧size=0))->Zuc next size f n x H fun v H'=>∀H2,Shut H H' H2->v= .tuple ⟨[.bool (Zcy next size f n),.int .i64 0]⟩∧H2=H:=by
    intro x hx hy;unfold Zuc;refine IfB.intro (fun h H2 hs=>⟨?_,(Zf hs).symm⟩) fun h=>IfB.intro (fun h5=>(Zbcq h2 h1).mono ?_) fun h5=>(Zbcq h2 h1).mono ?_
    . obtain ⟨q1,q2⟩:=hx h;unfold Zcy;rw [if_neg (by omega),if_pos ⟨q1,q2⟩]
      have:((f:Int)==(next:Int))=decide (f=next):=by rw [Bool.eq_iff_iff];simp;omega
      rw [this]
    . rintro _ H1 ⟨rfl,e⟩;rw [e];have h5:(n:Int)=0:=by simpa using h5
      refine ⟨_,rfl,fun H2 hs=>⟨?_,(Zf hs).symm⟩⟩;unfold Zcy;rw [if_neg (by omega),if_neg (hy h),if_pos (by omega)]
    . rintro _ H1 ⟨rfl,e⟩;rw [e];have h5: ¬(n:Int)=0:=by simpa using h5
      have hacc:Zcy next size f n=(Zei f next size||Zei (addN f (n - 1)) next size):=by unfold Zcy;rw [if_neg (by omega),if_neg (hy h),if_neg (by omega)]
      refine ⟨_,rfl,IfB.intro (fun h6 H2 hs=>⟨?_,(Zf hs).symm⟩) fun h6=>?_⟩;rw [hacc,h6];rfl
      . have e9:IntKind.wrap .i64 ((n:Int) - 1)=((n - 1:Nat):Int):=by rw [Zi (by omega) (by omega)];omega
        rw [e9];refine (Zee h2).mono ?_;rintro _ H1 ⟨rfl,e⟩;rw [e];refine ⟨_,rfl,(Zbcq (Zbb _ _) h1).mono ?_⟩;rintro _ H1 ⟨rfl,e⟩;rw [e];refine ⟨_,rfl,fun H2 hs=>⟨?_,(Zf hs).symm⟩⟩;rw [hacc,h6];rfl
  refine IfB.intro (fun h5=>key _ (fun h=>⟨by simpa using h5,by simpa using h⟩) fun h hn=>?_) fun h5=>key _ (fun h=>by cases h) fun _ hn=>?_
  rw [hn.2] at h;simp at h;rw [hn.1] at h5;simp at h5
end
end Go.Proofs.YtaljkjokbdpdoaaGreat
end
section
set_option maxRecDepth 100000
namespace Go.Proofs.YtaljkjokbdpdoaaGreat
open Go.Sh Go.Pc Go.Conn
section
variable {H H':Heap} {b rb hb rc first:Nat} {ra:Option Addr} {j:Jn}
theorem Zbhq {H0:Heap} {a:Option Addr} {c:Nat} {l:List Int} (h:Sh.Own H0 H a l.length c 1 Zh (bv l)) {m:Nat} (hm:m <= l.length):Reads H (if c=m then a else Option.map (fun x=>Addr.add x (m*1)) a) (l.length - m) (bv (l.drop m)):=by
  have hle:=h.le;by_cases e:c=m
  . rw [if_pos e];have h0:l.length - m=0:=by omega
    rw [h0];refine ⟨by simp;omega,?_⟩
    cases a with
    | none=>rfl
    | some x=>exact fun h=>absurd h (by omega)
  . rw [if_neg e];refine ⟨by simp,?_⟩
    rcases h.2.2 with ⟨rfl,h0,_⟩ | ⟨q,rest,rfl,_,hb,_⟩;show l.length - m=0;omega
    . have ea:Addr.add ⟨q,0,none⟩ (m*1)=⟨q,m,none⟩:=by simp only [Addr.add];by_cases hm0:m*1=0;rw [if_pos hm0];congr 1;omega;rw [if_neg hm0];congr 1;omega
      show 0<l.length - m->(Addr.add ⟨q,0,none⟩ (m*1)).spot=none∧∃c T fr,H (Addr.add ⟨q,0,none⟩ (m*1)).block=some (.cells c T fr)∧∀t,t<l.length - m->c[(Addr.add ⟨q,0,none⟩ (m*1)).off+t]? =(bv (l.drop m))[t]?
      rw [ea];refine fun hp=>⟨rfl,_,_,_,hb,fun t ht=>?_⟩;simp only [List.getElem?_toArray];rw [List.getElem?_append_left (by simp;omega)]
      simp [bv,List.getElem?_drop]
end
end Go.Proofs.YtaljkjokbdpdoaaGreat
end
section
set_option maxRecDepth 100000
namespace Go.Conn
theorem Zbvk (j:Jn) (B:Nat) (l:List Int) {t:Nat} (ht:t<l.length):(j.hold B (l.take t)).hold1 (B+t) l[t]=j.hold B (l.take (t+1)):=by
  unfold Jn.hold Jn.hold1;congr 1;funext i;simp only;by_cases e:i=B+t
  . subst e;rw [if_pos rfl,if_pos (by omega),if_pos (by omega)]
    have e1:B+t - B=t:=by omega
    have e2:(l.take (t+1))[t]? =some l[t]:=by rw [List.getElem?_take_of_lt (by omega),List.getElem?_eq_getElem ht]
    have e3:(l.take t)[t]? =none:=List.getElem?_eq_none (by simp;omega)
    rw [e1,e2,e3,Option.or_none]
  . rw [if_neg e];congr 1;by_cases hb:B <= i
    . rw [if_pos hb,if_pos hb];by_cases hlt:i - B<t;rw [List.getElem?_take_of_lt hlt,List.getElem?_take_of_lt (by omega)]
      rw [List.getElem?_eq_none (by simp;omega),List.getElem?_eq_none (by simp;omega)]
    rw [if_neg hb,if_neg hb]
theorem Zccl {next size at_ n:Nat} (h1:next<4294967296) (h2:at_<4294967296):(Zbm next size at_ n).1+(Zbm next size at_ n).2 <= n∨(Zbm next size at_ n).2=0:=by
  rcases Zry next size at_ n with h | ⟨hi,h⟩ | ⟨hi,ho,hs0,h⟩<;>rw [h]<;>simp only
  exact .inr trivial;left;omega;left;omega
theorem Zccn {next size at_ n:Nat} (h1:next<4294967296) (h2:at_<4294967296):wayN next (addN at_ (Zbm next size at_ n).1)+(Zbm next size at_ n).2 <= size∨(Zbm next size at_ n).2=0:=by
  rcases Zry next size at_ n with h | ⟨hi,h⟩ | ⟨hi,ho,hs0,h⟩<;>rw [h]<;>simp only
  exact .inr trivial
  . left;have:addN at_ 0=at_:=by rw [Zde];omega
    rw [this];omega
  . left;have:wayN next (addN at_ (wayN at_ next))=0:=by rw [Zfq,Zde,Zfq];omega
    rw [this];omega
theorem Zccm {next size at_ n:Nat}:(Zbm next size at_ n).1 <= n∧(Zbm next size at_ n).2 <= n∧(Zbm next size at_ n).2 <= size:=by rcases Zry next size at_ n with h | ⟨hi,h⟩ | ⟨hi,ho,hs0,h⟩<;>rw [h]<;>simp only<;>omega
end Go.Conn
namespace Go.Proofs.YtaljkjokbdpdoaaGreat
open Go.Sh Go.Pc Go.Conn
section
variable {H H':Heap} {b rb hb rc first:Nat} {ra:Option Addr} {j:Jn}
theorem Zcq {H:Heap} {b:Nat} (h:H b≠none):(∀y∈[b],∃o,H y=some o)∧Zb [b] H H:=by
  have: ∃o,H b=some o:=by
    cases hb:H b with
    | none=>exact absurd hb h
    | some o=>exact ⟨o,rfl⟩
  refine ⟨fun y hy=>?_,fun y hy=>⟨?_,rfl⟩⟩<;>rw [List.mem_singleton.1 hy]<;>exact this
theorem Zbvv (h:JRep H b rb hb ra rc first j) {at_ n c:Nat} {a:Option Addr} {d:List Int} (hat:at_<4294967296) (hr:Reads H a n (bv d)) (hap: ∀x,a=some x->¬JFt b rb hb ra x.block) (hn:n <= 1000000000):
    FnW Tryz.prog Zwg ⟨[.pointer (some ⟨b,0,none⟩),.int .u32 at_,.slice a n c]⟩ H fun v H'=>(∃u e,v= .tuple ⟨[.int .i64 u,.int .i64 e]⟩)∧∃ra' rc' first',JRep H' b rb hb ra' rc' first' (j.add at_ d)∧Zej H H' b rb hb ra ra':=by
  have hdl:d.length=n:=by have:=hr.len;simpa using this
  refine Zced b at_ a n c ?_;unfold Zbkp;refine (Zqt h).mono ?_;rintro _ H1 ⟨rfl,e⟩;rw [e];clear e H1;have hj0:Zej H H b rb hb ra ra:=⟨Keep.refl _ _,fun y hy=> .inl hy⟩;obtain ⟨m,h1⟩:=h.blk;obtain ⟨kp1,kp2⟩:=Zcq h1.some;refine ⟨true,rfl,ifF rfl (IfB.intro (fun hl H2 hs=>?_) fun hl=>?_)⟩
  . have hl:=of_decide_eq_true hl;have:j.add at_ d=j:=by unfold Jn.add;rw [if_pos (by omega)]
    rw [this];exact ⟨⟨_,_,rfl⟩,ra,rc,first,h.shut hs,Zbl hj0.1 hs,hj0.2⟩
  . have hl:=of_decide_eq_false hl;have hw:j.win <= 4096:=by unfold Jn.win;omega
    refine ⟨[b],kp1,List.mem_singleton.2 rfl,_,cellL h1 0 rfl,(Zzl h).mono ?_⟩;rintro _ H1 ⟨rfl,e⟩;rw [e];clear e H1;refine ⟨_,rfl,kp2,(Zcjy h.ok.next hat (by omega) (by omega)).mono ?_⟩
    rintro _ H1 ⟨rfl,e⟩;rw [e];clear e H1;have hadd:j.add at_ d=(j.hold (wayN j.next (addN at_ (Zbm j.next j.win at_ n).1)) ((d.drop (Zbm j.next j.win at_ n).1).take (Zbm j.next j.win at_ n).2)).move 4096:=by unfold Jn.add;rw [if_neg (by omega),hdl]
    obtain ⟨t1,t2,t3⟩:=Zccm (next:=j.next) (size:=j.win) (at_:=at_) (n:=n)
    have t4:=Zccl (size:=j.win) (n:=n) h.ok.next hat;have t5:=Zccn (size:=j.win) (n:=n) h.ok.next hat;rw [hadd];generalize (Zbm j.next j.win at_ n).1=A at*;generalize (Zbm j.next j.win at_ n).2=M at*;refine ⟨_,_,_,rfl,kp2,ifF rfl ⟨[b],kp1,List.mem_singleton.2 rfl,_,cellL h1 0 rfl,(Zee hat).mono ?_⟩⟩;rintro _ H1 ⟨rfl,e⟩;rw [e];clear e H1;refine ⟨_,rfl,kp2,(Ziq h.ok.next (Zbb _ _)).mono ?_⟩;rintro _ H1 ⟨rfl,e⟩;rw [e];clear e H1;have wl:=Znc j.next (addN at_ A);generalize wayN j.next (addN at_ A)=B at*;refine ⟨_,rfl,fun k x Hc=>∃t,t <= M∧k=M - t∧x=((t:Int),())∧JRep Hc b rb hb ra rc first (j.hold B (((d.drop A).take M).take t))∧Keep (fun y=>y=b∨y=rb∨y=hb) H Hc,M,⟨0,Nat.zero_le _,rfl,rfl,?_,Keep.refl _ _⟩,?_⟩
    . have:j.hold B (((d.drop A).take M).take 0)=j:=by
        have e:(fun i=>(j.held i).or (if B <= i then (((d.drop A).take M).take 0)[i - B]? else none))=j.held:=by funext i;simp
        unfold Jn.hold;rw [e]
      rw [this];exact h
    rintro k _ Hc ⟨t,htM,rfl,rfl,hc,kc⟩ g;unfold Zbko;have kj:Keep (JFt b rb hb ra) H Hc:=kc.mono fun y hy=>by rcases hy with e | e | e;exact .inl e;exact .inr (.inl e);exact .inr (.inr (.inl e))
    have hrc:Reads Hc a n (bv d):=hr.keep kj hap;refine IfB.intro (fun hlt=>?_) fun hge=>?_
    . have hlt:t<M:=by have:=of_decide_eq_true hlt;simp at this;exact this
      have hAM:A+M <= n:=by rcases t4 with h | h<;>omega
      have hBM:B+M <= j.win:=by rcases t5 with h | h<;>omega
      have hwin:j.win+j.rdy.length <= 4096:=by have:=h.ok.len;unfold Jn.win;omega
      have hpos:0<n:=by omega
      cases a with
      | none=>have:=hrc.2;simp only at this;omega
      | some x=>
        obtain ⟨hspot,_⟩:=hrc.2 hpos;have hci:=hrc.cell (j:=A+t) (by omega)
        have hwA:IntKind.wrap .i64 ((A:Int)+(t:Int))=((A+t:Nat):Int):=by rw [Zi (by omega) (by omega)];omega
        refine NilP.intro _ rfl ?_;rw [hwA];refine InB.intro (A+t) rfl (by omega) ?_
        have hci2:Hc.cell ⟨x.block,x.off+(A+t),none⟩=some (.int .u8 (d[A+t]'(by omega))):=by
          rw [hci];simp only [bv,List.getElem?_map];rw [List.getElem?_eq_getElem (by omega)];rfl
        have hel: ∀(Q:Addr->Prop),Q ⟨x.block,x.off+(A+t),none⟩->elemAt x (A+t) 1 Q:=fun Q hQ=>by obtain ⟨xb,xo,xs⟩:=x;simp only at hspot;subst hspot;rw [Zw];simpa using hQ
        refine hel _ ⟨_,hci2,?_⟩;have e1:IntKind.wrap .i64 ((B:Nat):Int)=B:=Zi (by omega) (by omega)
        have e2:IntKind.wrap .i64 ((B:Int)+(t:Int))=((B+t:Nat):Int):=by rw [Zi (by omega) (by omega)];omega
        rw [e1,e2];refine (Zbvy hc (i:=B+t) (x:=d[A+t]'(by omega)) (by show B+t+j.rdy.length<4096;omega)).mono ?_
        rintro _ H1 ⟨rfl,h2,k2⟩;refine ⟨rfl,M - (t+1),by omega,t+1,by omega,rfl,?_,?_,kc.trans k2⟩
        . rw [Zi (by omega) (by omega)];rfl
        . have hlt2:t<((d.drop A).take M).length:=by simp;omega
          have:=Zbvk j B ((d.drop A).take M) hlt2;rw [← this];have e3:((d.drop A).take M)[t]=d[A+t]'(by omega):=by simp
          rw [e3];exact h2
    . have hge:t=M:=by have:=of_decide_eq_false hge;simp at this;omega
      subst hge;rw [show ((d.drop A).take t).take t=(d.drop A).take t by rw [List.take_take,Nat.min_self]] at hc
      refine (Zbvz hc).mono ?_;rintro _ H1 ⟨⟨u,rfl⟩,ra',rc',first',hm,hst⟩;refine ⟨u,rfl,fun H2 hs=>⟨⟨_,_,rfl⟩,ra',rc',first',hm.shut hs,?_⟩⟩;have:Zej H H1 b rb hb ra ra':=Zej.trans ⟨kj,fun y hy=> .inl hy⟩ hst;exact ⟨Zbl this.1 hs,this.2⟩
end
end Go.Proofs.YtaljkjokbdpdoaaGreat
end
section
set_option maxRecDepth 100000
namespace Go.Proofs.YtaljkjokbdpdoaaGreat
open Go.Sh Go.Pc Go.Conn
section
variable {H:Heap}
theorem Zbto: ∃it,Tryz.prog.info? Zbs=some it∧it.size=1∧it.bytes=1:=by
  have h:(Tryz.prog.info? Zbs).map (fun i=>(i.size,i.bytes))=some (1,1):=by kernel_rfl
  cases hi:Tryz.prog.info? Zbs with
  | none=>rw [hi] at h;cases h
  | some it=>
    rw [hi] at h;simp only [Option.map_some,Option.some.injEq,Prod.mk.injEq] at h;exact ⟨it,rfl,h.1,h.2⟩
theorem Zmv (v:Value): ∀(n k:Nat),k<n->(repL n [v])[k]? =some v
  | 0,k,h=>by omega
  | n+1,0,_=>rfl
  | n+1,k+1,h=>by
    show ([v]++repL n [v])[k+1]? =_;rw [List.getElem?_append_right (by simp)]
    simpa using Zmv v n k (by omega)
theorem Zrq (v:Value) (n:Nat):(repL n [v]).length=n:=by rw [Zmu];simp
theorem Zbfr (next:Nat) (hn:next<4294967296):FnW Tryz.prog Zwc ⟨[.int .u32 next,.int .i64 4096]⟩ H fun v H'=>∃b rb hb,v= .tuple ⟨[.pointer (some ⟨b,0,none⟩),.int .i64 0]⟩∧JRep H' b rb hb none 0 0 ⟨next,[],fun _=>none⟩∧Keep Nil H H'∧∀y,JFt b rb hb none y->H y=none:=by
  refine Zcdq next 4096 ?_
  unfold Zbjt;refine ifF (by decide) ?_
  unfold Zbbn;refine ifF (by decide) ?_
  obtain ⟨it,i1,i2,i3⟩:=Zog;obtain ⟨jt,j1,j2,j3⟩:=Zbto;refine Zcw.intro (e:=Zh) (z:=[.int .u8 0]) (l:=4096) (c:=4096) (by kernel_rfl) i1 (by kernel_rfl) (by rw [i2];rfl) (Nat.le_refl _) (by decide) (by rw [i3];decide) fun rb hrb=>?_
  have k1:Keep Nil H (H.upd rb (.cells ⟨repL 4096 [.int .u8 0]⟩ Zh (0,0))):=(Keep.refl _ _).new hrb;have b1:Blk (H.upd rb (.cells ⟨repL 4096 [.int .u8 0]⟩ Zh (0,0))) rb Zh ⟨repL 4096 [.int .u8 0]⟩:=Blk.upd_eq;generalize H.upd rb (.cells ⟨repL 4096 [.int .u8 0]⟩ Zh (0,0))=H1 at k1 b1;refine ⟨_,_,_,rfl,?_⟩;refine Zcw.intro (e:=Zbs) (z:=[.bool false]) (l:=4096) (c:=4096) (by kernel_rfl) j1 (by kernel_rfl) (by rw [j2];rfl) (Nat.le_refl _) (by decide) (by rw [j3];decide) fun hb hhb=>?_
  have k2:Keep Nil H1 (H1.upd hb (.cells ⟨repL 4096 [.bool false]⟩ Zbs (0,0))):=(Keep.refl _ _).new hhb;have b2:Blk (H1.upd hb (.cells ⟨repL 4096 [.bool false]⟩ Zbs (0,0))) hb Zbs ⟨repL 4096 [.bool false]⟩:=Blk.upd_eq;generalize H1.upd hb (.cells ⟨repL 4096 [.bool false]⟩ Zbs (0,0))=H2 at k2 b2;refine ⟨_,_,_,rfl,NewW.intro fun b hbn=>?_⟩;have k3:Keep Nil H2 (H2.upd b (.cells ⟨[.int .u32 next,.int .i64 0,.slice (some ⟨rb,0,none⟩) 4096 4096,.slice (some ⟨hb,0,none⟩) 4096 4096,.int .i64 0,.slice none 0 0]⟩ Zhr (0,0))):=(Keep.refl _ _).new hbn
  have b3:Blk (H2.upd b (.cells ⟨[.int .u32 next,.int .i64 0,.slice (some ⟨rb,0,none⟩) 4096 4096,.slice (some ⟨hb,0,none⟩) 4096 4096,.int .i64 0,.slice none 0 0]⟩ Zhr (0,0))) b Zhr ⟨[.int .u32 next,.int .i64 0,.slice (some ⟨rb,0,none⟩) 4096 4096,.slice (some ⟨hb,0,none⟩) 4096 4096,.int .i64 0,.slice none 0 0]⟩:=Blk.upd_eq
  generalize H2.upd b (.cells ⟨[.int .u32 next,.int .i64 0,.slice (some ⟨rb,0,none⟩) 4096 4096,.slice (some ⟨hb,0,none⟩) 4096 4096,.int .i64 0,.slice none 0 0]⟩ Zhr (0,0))=H3 at k3 b3
  have kk:=(k1.trans k2).trans k3;refine fun H4 hs=>⟨b,rb,hb,rfl,JRep.shut ⟨⟨hn,Nat.zero_le _,fun i hi=>absurd rfl hi⟩,by decide,⟨0,b3⟩,⟨_,k3.blk (k2.blk b1 fun z=>z) fun z=>z,Zrq _ _,fun i x _ hx=>(by cases hx),fun k hk=>⟨0,?_⟩⟩,⟨_,k3.blk b2 fun z=>z,Zrq _ _,fun i hi=>?_⟩,Sh.Own.nil,fun e=>by cases e⟩ hs,Zk kk hs,fun y hy=>?_⟩
  rw [List.getElem?_toArray];exact Zmv _ _ _ hk;rw [List.getElem?_toArray];exact Zmv _ _ _ (Zbap _ _);rcases hy with rfl | rfl | rfl | e;exact (k1.trans k2).free hbn;exact hrb;exact k1.free hhb;cases e
end
end Go.Proofs.YtaljkjokbdpdoaaGreat
end
section
set_option maxRecDepth 100000
namespace Go.Conn
structure Ob where
  una:Nat
  data:List Int
  sent:Nat
  win:Nat
  big:Nat
  tries:Nat
structure Ob.Ok (o:Ob):Prop where
  una:o.una<4294967296
  len:o.data.length <= 4096
  sent:o.sent <= o.data.length
  win:o.win <= 65535
  big:1 <= o.big∧o.big <= 1460
  tries:o.tries <= 8
noncomputable def Ob.onext (o:Ob):Nat:=addN o.una o.sent
end Go.Conn
namespace Go.Proofs.YtaljkjokbdpdoaaGreat
open Go.Sh Go.Pc Go.Conn
def obL (eb:Nat) (on:Bool) (unt:Nat) (frm:Int) (da:Option Addr) (dc:Nat) (now:Int) (o:Ob):List Value:=
  [.pointer (some ⟨eb,0,none⟩),.bool on,.int .u32 unt,.int .i64 frm,.int .u32 o.una,.slice da o.data.length dc,.int .i64 o.sent,.int .i64 4096,.int .i64 o.win,.int .i64 o.big,.int .i64 now]
structure ORep (H:Heap) (b eb:Nat) (da:Option Addr) (dc:Nat) (now:Int) (o:Ob):Prop where
  ok:o.Ok
  blk: ∃on unt frm,unt<4294967296∧Blk H b Zgs ⟨obL eb on unt frm da dc now o⟩
  est:EAt H eb o.tries
  data:Sh.Own emp H da o.data.length dc 1 Zh (bv o.data)
def OFt (b eb:Nat) (da:Option Addr):Nat->Prop:=fun x=>x=b∨x=eb∨da=some ⟨x,0,none⟩
section
variable {H H':Heap} {b eb dc:Nat} {da:Option Addr} {now:Int} {o:Ob}
theorem Zoi {t:Nat} (h:EAt H eb t): ∃c,Blk H eb Zvc c:=by obtain ⟨_,_,_,h⟩:=h;exact ⟨_,h⟩
theorem Zcl {x:Nat} {T T':TypeId} {c c':Array Value} (h:Blk H x T c) (h':Blk H x T' c'):T=T':=by
  unfold Blk at h h';rw [h] at h';injection h' with h'
  injection h' with _ h' _
theorem ORep.ne (h:ORep H b eb da dc now o):b≠eb∧da≠some ⟨b,0,none⟩∧da≠some ⟨eb,0,none⟩:=by
  obtain ⟨on,unt,frm,_,h1⟩:=h.blk;obtain ⟨c,h2⟩:=Zoi h.est;refine ⟨fun e=>?_,fun e=>?_,fun e=>?_⟩;subst e;exact absurd (Zcl h1 h2) (by decide)
  obtain ⟨c',h3⟩:=h.data.live e;exact absurd (Zcl h1 h3) (by decide)
  obtain ⟨c',h3⟩:=h.data.live e;exact absurd (Zcl h2 h3) (by decide)
theorem ORep.live (h:ORep H b eb da dc now o) {x:Nat} (hx:OFt b eb da x):H x≠none:=by rcases hx with rfl | rfl | hx;obtain ⟨_,_,_,_,h⟩:=h.blk;exact h.some;obtain ⟨_,h⟩:=Zoi h.est;exact h.some;obtain ⟨c,h⟩:=h.data.live hx;exact h.some
theorem ORep.keep {S:Nat->Prop} (h:ORep H b eb da dc now o) (k:Keep S H H') (hs: ∀x,OFt b eb da x->¬S x):ORep H' b eb da dc now o:=by obtain ⟨on,unt,frm,hu,h1⟩:=h.blk;exact ⟨h.ok,⟨on,unt,frm,hu,k.blk h1 (hs _ (.inl rfl))⟩,h.est.keep k (hs _ (.inr (.inl rfl))),h.data.keep k fun x hx=>hs x (.inr (.inr hx))⟩
theorem ORep.shut {H0:Heap} (h:ORep H b eb da dc now o) (hs:Shut H0 H H'):ORep H' b eb da dc now o:=by obtain ⟨on,unt,frm,hu,h1⟩:=h.blk;exact ⟨h.ok,⟨on,unt,frm,hu,Zcb h1 hs⟩,h.est.shut hs,Zbn h.data hs⟩
theorem Zhd (h:ORep H b eb da dc now o):FnW Tryz.prog Zfk ⟨[.pointer (some ⟨b,0,none⟩)]⟩ H fun v H'=>v= .bool true∧H'=H:=by obtain ⟨on,unt,frm,_,h1⟩:=h.blk;refine Zcjw b ?_;unfold Zbqg;exact ⟨_,cellL h1 0 rfl,fun H2 hs=>⟨rfl,(Zf hs).symm⟩⟩
theorem Zbxl (h:ORep H b eb da dc now o):FnW Tryz.prog Zxg ⟨[.pointer (some ⟨b,0,none⟩)]⟩ H fun v H'=>v= .int .u32 o.una∧H'=H:=by refine Zche b ?_;unfold Zbnd;refine (Zhd h).mono ?_;rintro _ H1 ⟨rfl,e⟩;rw [e];obtain ⟨on,unt,frm,_,h1⟩:=h.blk;exact ⟨true,rfl,ifF rfl ⟨_,cellL h1 4 rfl,fun H2 hs=>⟨rfl,(Zf hs).symm⟩⟩⟩
theorem Zbgw (h:ORep H b eb da dc now o):FnW Tryz.prog Zpf ⟨[.pointer (some ⟨b,0,none⟩)]⟩ H fun v H'=>v= .int .i64 o.sent∧H'=H:=by refine Zcfs b ?_;unfold Zblz;refine (Zhd h).mono ?_;rintro _ H1 ⟨rfl,e⟩;rw [e];obtain ⟨on,unt,frm,_,h1⟩:=h.blk;exact ⟨true,rfl,ifF rfl ⟨_,cellL h1 6 rfl,fun H2 hs=>⟨rfl,(Zf hs).symm⟩⟩⟩
theorem Zbgx (h:ORep H b eb da dc now o):FnW Tryz.prog Zpg ⟨[.pointer (some ⟨b,0,none⟩)]⟩ H fun v H'=>v= .int .i64 o.data.length∧H'=H:=by refine Zcft b ?_;unfold Zbma;refine (Zhd h).mono ?_;rintro _ H1 ⟨rfl,e⟩;rw [e];obtain ⟨on,unt,frm,_,h1⟩:=h.blk;exact ⟨true,rfl,ifF rfl ⟨_,_,_,cellL h1 5 rfl,fun H2 hs=>⟨rfl,(Zf hs).symm⟩⟩⟩
theorem Zbxn (h:ORep H b eb da dc now o):FnW Tryz.prog Zxc ⟨[.pointer (some ⟨b,0,none⟩)]⟩ H fun v H'=>v= .int .i64 o.win∧H'=H:=by refine Zcha b ?_;unfold Zbmz;refine (Zhd h).mono ?_;rintro _ H1 ⟨rfl,e⟩;rw [e];obtain ⟨on,unt,frm,_,h1⟩:=h.blk;exact ⟨true,rfl,ifF rfl ⟨_,cellL h1 8 rfl,fun H2 hs=>⟨rfl,(Zf hs).symm⟩⟩⟩
theorem Zra (h:ORep H b eb da dc now o):FnW Tryz.prog Zjn ⟨[.pointer (some ⟨b,0,none⟩)]⟩ H fun v H'=>v= .int .u32 o.onext∧H'=H:=by refine Zcec b ?_;unfold Zbkn;refine (Zhd h).mono ?_;rintro _ H1 ⟨rfl,e⟩;rw [e];obtain ⟨on,unt,frm,_,h1⟩:=h.blk;refine ⟨true,rfl,ifF rfl ⟨_,cellL h1 4 rfl,_,cellL h1 6 rfl,(Zee h.ok.una).mono ?_⟩⟩;rintro _ H2 ⟨rfl,e⟩;rw [e];exact ⟨_,rfl,fun H2 hs=>⟨rfl,(Zf hs).symm⟩⟩
theorem Zbxm (h:ORep H b eb da dc now o):FnW Tryz.prog Zwx ⟨[.pointer (some ⟨b,0,none⟩)]⟩ H fun v H'=>(∃n,v= .int .i64 n)∧H'=H:=by refine Zcgu b ?_;unfold Zbmt;refine (Zhd h).mono ?_;rintro _ H1 ⟨rfl,e⟩;rw [e];obtain ⟨on,unt,frm,_,h1⟩:=h.blk;refine ⟨true,rfl,ifF rfl ⟨_,cellL h1 0 rfl,(Zbuu h.est h.ok.tries).mono ?_⟩⟩;rintro _ H2 ⟨⟨n,rfl⟩,e⟩;rw [e];exact ⟨_,rfl,fun H2 hs=>⟨⟨_,rfl⟩,(Zf hs).symm⟩⟩
end
end Go.Proofs.YtaljkjokbdpdoaaGreat
end
section
set_option maxRecDepth 100000
namespace Go.Pc
open Go.Sh
theorem Zbo {T:Type} {x0:T} {H:Heap} {body:T->Heap->(T->Heap->Prop)->Prop} (I:Nat->T->Heap->Prop) (k:Nat) (h0:I k x0 H)
    (h: ∀k x H,I k x H->body x H fun x' H'=>∃k',k'<k∧I k' x' H'):Zbe T x0 H body:=⟨I,k,h0,h⟩
end Go.Pc
namespace Go.Proofs.YtaljkjokbdpdoaaGreat
open Go.Sh Go.Pc Go.Conn
section
variable {H:Heap}
end
end Go.Proofs.YtaljkjokbdpdoaaGreat
end
section
set_option maxRecDepth 100000
namespace Go.Proofs.YtaljkjokbdpdoaaGreat
open Go.Sh Go.Pc Go.Conn
def Zv (H H':Heap) (b eb:Nat) (da da':Option Addr):Prop:=Keep (OFt b eb da) H H'∧∀y,da'=some ⟨y,0,none⟩->da=some ⟨y,0,none⟩∨H y=none
section
variable {H H':Heap} {b eb dc:Nat} {da:Option Addr} {now:Int} {o:Ob}
theorem Zv.refl:Zv H H b eb da da:=⟨Keep.refl _ _,fun y hy=> .inl hy⟩
theorem Zv.trans {H2:Heap} {da1 da2:Option Addr} (h:Zv H H' b eb da da1) (k:Zv H' H2 b eb da1 da2):Zv H H2 b eb da da2:=by refine ⟨h.1.then k.1 fun y hy=>?_,fun y hy=>?_⟩;rcases hy with e | e | e;exact .inl (.inl e);exact .inl (.inr (.inl e));exact (h.2 y e).imp (fun z=> .inr (.inr z)) id;rcases k.2 y hy with e | e;exact h.2 y e;exact .inr (h.1.free e)
theorem Zv.shut {H2:Heap} {da':Option Addr} (h:Zv H H' b eb da da') (hs:Shut H H' H2):Zv H H2 b eb da da':=⟨Zbl h.1 hs,h.2⟩
theorem Zv.blk (k:Keep (fun x=>x=b) H H'):Zv H H' b eb da da:=⟨k.mono fun _ e=> .inl e,fun y hy=> .inl hy⟩
theorem Zv.est (k:Keep (fun x=>x=eb) H H'):Zv H H' b eb da da:=⟨k.mono fun _ e=> .inr (.inl e),fun y hy=> .inl hy⟩
theorem Zv.nil (k:Keep Nil H H'):Zv H H' b eb da da:=⟨k.mono fun _ e=>e.elim,fun y hy=> .inl hy⟩
theorem ORep.put {H2:Heap} {on:Bool} {unt:Nat} {frm now':Int} {o':Ob} (h:ORep H b eb da dc now o) (k:Keep (fun x=>x=b) H H2) (hb:Blk H2 b Zgs ⟨obL eb on unt frm da dc now' o'⟩) (hu:unt<4294967296) (ok:o'.Ok) (ht:o'.tries=o.tries) (hd:o'.data=o.data):ORep H2 b eb da dc now' o':=by have hne:=h.ne;refine ⟨ok,⟨on,unt,frm,hu,hb⟩,?_,?_⟩;rw [ht];exact h.est.keep k fun e=>hne.1 e.symm;rw [hd];exact h.data.keep k fun x hx e=>hne.2.1 (e▸hx)
theorem Zrc (n least:Int):FnW Tryz.prog Zjp ⟨[.int .i64 n,.int .i64 least]⟩ H fun v H'=>v= .bool (decide (n≥least)&&decide (n <= 65535))∧H'=H:=by refine Zcef n least ?_;unfold Zbkr;refine IfB.intro (fun h H2 hs=>⟨?_,(Zf hs).symm⟩) fun h H2 hs=>⟨?_,(Zf hs).symm⟩;rw [h];rfl;rw [h];rfl
theorem Zbxo (h:ORep H b eb da dc now o) {t:Int} (ht:now <= t):FnW Tryz.prog Zxj ⟨[.pointer (some ⟨b,0,none⟩),.int .i64 t]⟩ H fun v H'=>v= .int .i64 0∧ORep H' b eb da dc t o∧Zv H H' b eb da da:=by refine Zchh b t ?_;unfold Zbng;refine (Zhd h).mono ?_;rintro _ H1 ⟨rfl,e⟩;rw [e];obtain ⟨on,unt,frm,hu,h1⟩:=h.blk;refine ⟨true,rfl,ifF rfl ⟨_,cellL h1 10 rfl,ifF (decide_eq_false (by omega)) (stL h1 (by simp [obL]) rfl fun H2 h2 k2 H3 hs=>⟨rfl,(h.put k2 (on:=on) (unt:=unt) (frm:=frm) (now':=t) (o':=o) h2 hu h.ok rfl rfl).shut hs,(Zv.blk k2).shut hs⟩)⟩⟩
theorem Zbxq {z:Int} (hz:z <= 0):FnW Tryz.prog Zps ⟨[.pointer (some ⟨b,0,none⟩),.int .i64 z]⟩ H fun v H'=>v= .tuple ⟨[.int .u32 0,.slice none 0 0,.int .i64 5]⟩∧H'=H:=by refine Zbqa b z ?_;unfold Zbcl;exact ifT (decide_eq_true hz) fun H2 hs=>⟨rfl,(Zf hs).symm⟩
theorem Zbyy {H0:Heap} {a:Option Addr} {c:Nat} {l:List Int} (h:Sh.Own H0 H a l.length c 1 Zh (bv l)) {m k:Nat} (hm:m+k <= l.length):Reads H (if c=m then a else Option.map (fun x=>Addr.add x (m*1)) a) k (bv ((l.drop m).take k)):=by
  have:=(Zbhq h (m:=m) (by omega)).take (m:=k) (by omega)
  have e:(bv (l.drop m)).take k=bv ((l.drop m).take k):=by simp [bv,List.map_take]
  rw [e] at this;exact this
theorem Zbxp (h:ORep H b eb da dc now o) {n:Nat} (hn:0<n) (hl:o.sent+n <= o.data.length):FnW Tryz.prog Zps ⟨[.pointer (some ⟨b,0,none⟩),.int .i64 n]⟩ H fun v H'=>
    ∃u,v= .tuple ⟨[.int .u32 o.onext,u,.int .i64 0]⟩∧Zfw H H' u ((o.data.drop o.sent).take n)∧ORep H' b eb da dc now { o with sent:=o.sent+n }∧Zv H H' b eb da da:=by
  have hlen:=h.ok.len;refine Zbqa b n ?_;unfold Zbcl;refine ifF (decide_eq_false (by omega)) ((Zra h).mono ?_)
  rintro _ H1 ⟨rfl,e⟩;rw [e];clear e H1;obtain ⟨on,unt,frm,hu,h1⟩:=h.blk;have hle:=h.data.le;have hw:IntKind.wrap .i64 ((o.sent:Int)+(n:Int))=((o.sent+n:Nat):Int):=by rw [Zi (by omega) (by omega)];omega
  refine ⟨_,rfl,_,_,_,cellL h1 5 rfl,_,cellL h1 6 rfl,_,cellL h1 6 rfl,?_⟩;rw [hw];refine InC.intro (o.sent+n) rfl (by omega) (InC.intro o.sent rfl (by omega) ?_)
  rw [Nat.add_sub_cancel_left];refine (Zbec (Zbyy h.data hl) (by omega)).mono ?_
  rintro _ H2 ⟨⟨a,c,rfl,o2⟩,k2⟩;have ok':({ o with sent:=o.sent+n }:Ob).Ok:=⟨h.ok.una,h.ok.len,hl,h.ok.win,h.ok.big,h.ok.tries⟩
  have h2:=h.keep k2 fun _ _ h=>h;have h21:=k2.blk h1 id;have fin: ∀(H4:Heap) (on:Bool) (unt:Nat) (frm:Int),unt<4294967296->Keep (fun x=>x=b) H2 H4->Blk H4 b Zgs ⟨obL eb on unt frm da dc now o⟩->Zua b n o.onext a ((o.data.drop o.sent).take n).length c H4 fun v H'=>∀H5,Shut H H' H5->∃u,v= .tuple ⟨[.int .u32 o.onext,u,.int .i64 0]⟩∧Zfw H H5 u ((o.data.drop o.sent).take n)∧ORep H5 b eb da dc now { o with sent:=o.sent+n }∧Zv H H5 b eb da da:=by
    intro H4 on unt frm hu k4 b4;unfold Zua;refine ⟨_,cellL b4 6 rfl,stL b4 (by simp [obL]) rfl fun H5 b5 k5=>?_⟩
    rw [hw] at b5;intro H6 hs;have kk:Keep (fun x=>x=b) H2 H5:=k4.trans k5;have hr:=h2.put kk (on:=on) (unt:=unt) (frm:=frm) (now':=now) (o':={ o with sent:=o.sent+n }) b5 hu ok' rfl rfl
    refine ⟨_,rfl,Zfw.shut ⟨a,c,rfl,o2.keep kk fun x hx e=>?_⟩ hs,hr.shut hs,((Zv.nil k2).trans (Zv.blk kk)).shut hs⟩;have:=o2.free hx;rw [e] at this;exact h1.some this
  refine ⟨a,_,c,rfl,on,cellL h21 1 rfl,IfB.intro (fun _=>?_) fun _=>fin H2 on unt frm hu (Keep.refl _ _) h21⟩;obtain ⟨kp1,kp2⟩:=Zcq h21.some;refine ⟨[b],kp1,List.mem_singleton.2 rfl,_,cellL h21 10 rfl,(Zee (n:=1) (show o.onext<4294967296 from Zbb _ _)).mono ?_⟩
  rintro _ H3 ⟨rfl,e⟩;rw [e];clear e H3;refine ⟨_,rfl,kp2,stL h21 (by simp [obL]) rfl fun H3 b3 k3=>stL b3 (by simp [obL]) rfl fun H4 b4 k4=>stL b4 (by simp [obL]) rfl fun H5 b5 k5=>?_⟩
  exact fin H5 true _ _ (Zbb _ _) ((k3.trans k4).trans k5) b5
def Zel (o:Ob):Nat:=min (min o.big (o.data.length - o.sent)) (o.win - o.sent)
theorem Zbxk (h:ORep H b eb da dc now o) {t:Int} (ht:now <= t):FnW Tryz.prog Zwz ⟨[.pointer (some ⟨b,0,none⟩),.int .i64 t]⟩ H fun v H'=>
    (Zel o=0∧v= .tuple ⟨[.int .u32 0,.slice none 0 0,.int .i64 5]⟩∧ORep H' b eb da dc t o∧Zv H H' b eb da da)∨
    (0<Zel o∧∃u,v= .tuple ⟨[.int .u32 o.onext,u,.int .i64 0]⟩∧Zfw H H' u ((o.data.drop o.sent).take (Zel o))∧ORep H' b eb da dc t { o with sent:=o.sent+Zel o }∧Zv H H' b eb da da):=by
  have hlen:=h.ok.len;have hsent:=h.ok.sent;have hwin:=h.ok.win;have hbig:=h.ok.big;refine Zcgw b t ?_;unfold Zbmv;refine (Zbxo h ht).mono ?_;rintro _ H1 ⟨rfl,h1,s1⟩;obtain ⟨on,unt,frm,hu,b1⟩:=h1.blk;refine ⟨_,rfl,ifF rfl ⟨_,cellL b1 9 rfl,_,_,_,cellL b1 5 rfl,_,cellL b1 6 rfl,_,cellL b1 8 rfl,_,cellL b1 6 rfl,?_⟩⟩;rw [Zi (by omega) (by omega),Zi (by omega) (by omega)]
  by_cases h0:Zel o=0
  . refine (Zbxq (by unfold Zel at h0;omega)).mono ?_
    rintro _ H2 ⟨rfl,e⟩;rw [e];exact ⟨_,_,_,_,_,rfl,fun H3 hs=> .inl ⟨h0,rfl,h1.shut hs,s1.shut hs⟩⟩
  . have hz:min (min (o.big:Int) ((o.data.length:Int) - (o.sent:Int))) ((o.win:Int) - (o.sent:Int))=(Zel o:Nat):=by unfold Zel at h0 ⊢;omega
    rw [hz];refine (Zbxp h1 (n:=Zel o) (by omega) (by unfold Zel;omega)).mono ?_
    rintro _ H2 ⟨u,rfl,f2,h2,s2⟩;obtain ⟨a,c,rfl,o2⟩:=f2;refine ⟨_,_,_,_,_,rfl,fun H3 hs=> .inr ⟨by omega,_,rfl,?_,h2.shut hs,(s1.trans s2).shut hs⟩⟩
    exact ⟨a,c,rfl,(Zbn o2 hs).mono s1.1⟩
end
end Go.Proofs.YtaljkjokbdpdoaaGreat
end
section
set_option maxRecDepth 100000
namespace Go.Conn
noncomputable def Ob.sure (o:Ob) (n w:Nat):Ob:=⟨addN o.una n,o.data.drop n,o.sent - n,w,o.big,if n=0 then o.tries else 0⟩
end Go.Conn
namespace Go.Proofs.YtaljkjokbdpdoaaGreat
open Go.Sh Go.Pc Go.Conn
section
variable {H H':Heap} {b eb dc:Nat} {da:Option Addr} {now:Int} {o:Ob}
theorem Zbxt (h:ORep H b eb da dc now o) {n:Nat} (hn:0<n) (hl:n <= o.sent):FnW Tryz.prog Zxx ⟨[.pointer (some ⟨b,0,none⟩),.int .i64 n]⟩ H fun v H'=>
    v= .tuple ⟨[]⟩∧∃da' dc',ORep H' b eb da' dc' now (o.sure n o.win)∧Zv H H' b eb da da':=by
  have hlen:=h.ok.len;have hsent:=h.ok.sent;have hne:=h.ne;refine Zciy b n ?_;unfold Zbpb;obtain ⟨on,unt,frm,hu,h1⟩:=h.blk;have ok':(o.sure n o.win).Ok:=⟨Zbb _ _,by show (o.data.drop n).length <= 4096;simp;omega,by show o.sent - n <= (o.data.drop n).length;simp;omega,h.ok.win,h.ok.big,by show (if n=0 then o.tries else 0) <= 8;rw [if_neg (by omega)];omega⟩
  have tail: ∀(H2:Heap) (on:Bool),Blk H2 b Zgs ⟨obL eb on unt frm da dc now o⟩->EAt H2 eb o.tries->Sh.Own emp H2 da o.data.length dc 1 Zh (bv o.data)->Zv H H2 b eb da da->Zts b n H2 fun v H'=>∀H5,Shut H H' H5->v= .tuple ⟨[]⟩∧∃da' dc',ORep H5 b eb da' dc' now (o.sure n o.win)∧Zv H H5 b eb da da':=by
    intro H2 on b2 e2 d2 s2;unfold Zts;refine ⟨_,cellL b2 0 rfl,(Zvw e2).mono ?_⟩;rintro _ H3 ⟨rfl,e3,k3⟩;have b3:=k3.blk b2 hne.1;have d3:=d2.keep k3 fun x hx e=>hne.2.2 (e▸hx);refine ⟨rfl,_,cellL b3 4 rfl,(Zee h.ok.una).mono ?_⟩;rintro _ H4 ⟨rfl,e⟩;rw [e];clear e H4;refine ⟨_,rfl,stL b3 (by simp [obL]) rfl fun H4 b4 k4=>⟨_,_,_,cellL b4 5 rfl,InC.intro n rfl (by omega) ?_⟩⟩
    have d4:=d3.keep k4 fun x hx e=>hne.2.1 (e▸hx);refine (Zbec (Zbhq d4 (m:=n) (by omega)) (by omega)).mono ?_
    rintro _ H5 ⟨⟨a,c,rfl,o5⟩,k5⟩;have b5:=k5.blk b4 id;have e5:=(e3.keep k4 fun e=>hne.1 e.symm).keep k5 id;refine ⟨_,_,_,rfl,stL b5 (by simp [obL]) rfl fun H6 b6 k6=>⟨_,cellL b6 6 rfl,stL b6 (by simp [obL]) rfl fun H7 b7 k7=>fun H8 hs=>⟨rfl,a,c,?_⟩⟩⟩
    have hw:IntKind.wrap .i64 ((o.sent:Int) - (n:Int))=((o.sent - n:Nat):Int):=by rw [Zi (by omega) (by omega)];omega
    rw [hw] at b7;have kk:=k6.trans k7;have fresh: ∀x,a=some ⟨x,0,none⟩->x≠b∧x≠eb:=fun x hx=>by have hf:=o5.free hx;refine ⟨fun e=>?_,fun e=>?_⟩;rw [e] at hf;exact b4.some hf;rw [e] at hf;obtain ⟨_,q⟩:=Zoi (e3.keep k4 fun e=>hne.1 e.symm);exact q.some hf
    have hr:ORep H7 b eb a c now (o.sure n o.win):=by
      refine ⟨ok',⟨on,unt,frm,hu,b7⟩,?_,?_⟩
      . show EAt H7 eb (if n=0 then o.tries else 0)
        rw [if_neg (by omega)]
        exact e5.keep kk fun e=>hne.1 e.symm
      have:Sh.Own H4 H7 a (o.data.drop n).length c 1 Zh (bv (o.data.drop n)):=o5.keep kk fun x hx=>(fresh x hx).1;exact this.mono (S:=fun _=>True) ⟨fun y hy=>absurd trivial hy,fun y hy=>absurd rfl hy⟩
    have st:Zv H H4 b eb da da:=(s2.trans (Zv.est k3)).trans (Zv.blk k4);refine ⟨hr.shut hs,(Zv.trans st ⟨(k5.mono fun _ e=>e.elim).trans (kk.mono fun _ e=> .inl e),fun y hy=> .inr (o5.free hy)⟩).shut hs⟩
  have mid: ∀x,Ztr b n x H fun v H'=>∀H5,Shut H H' H5->v= .tuple ⟨[]⟩∧∃da' dc',ORep H5 b eb da' dc' now (o.sure n o.win)∧Zv H H5 b eb da da':=by
    intro x;unfold Ztr;refine IfB.intro (fun _=>stL h1 (by simp [obL]) rfl fun H2 b2 k2=>⟨_,cellL b2 0 rfl,_,cellL b2 10 rfl,_,cellL b2 3 rfl,?_⟩) fun _=>tail H on h1 h.est h.data Zv.refl
    refine (Zbus (h.est.keep k2 fun e=>hne.1 e.symm) _).mono ?_;rintro _ H3 ⟨⟨m,rfl⟩,e3,k3⟩;refine ⟨m,rfl,tail H3 false (k3.blk b2 hne.1) e3 ?_ ((Zv.blk k2).trans (Zv.est k3))⟩;exact (h.data.keep k2 fun x hx e=>hne.2.1 (e▸hx)).keep k3 fun x hx e=>hne.2.2 (e▸hx)
  refine ⟨on,cellL h1 1 rfl,IfB.intro (fun _=>⟨_,cellL h1 4 rfl,_,cellL h1 2 rfl,(Ziq h.ok.una hu).mono ?_⟩) fun _=>mid _⟩;rintro _ H2 ⟨rfl,e⟩;rw [e];exact ⟨_,rfl,mid _⟩
theorem Zcbv (o:Ob) (hu:o.una<4294967296) (w:Nat):o.sure 0 w= { o with win:=w }:=by obtain ⟨u,d,s,w0,g,t⟩:=o;unfold Ob.sure;have hu:u<4294967296:=hu;simp only [List.drop_zero,Nat.sub_zero,if_pos];congr 1;rw [Zde];omega
theorem Zbxi (h:ORep H b eb da dc now o) {t:Int} (ht:now <= t) {a w:Nat} (ha:a<4294967296) (hw:w <= 65535):FnW Tryz.prog Zju ⟨[.pointer (some ⟨b,0,none⟩),.int .i64 t,.int .u32 a,.int .i64 w]⟩ H fun v H'=>
    (o.sent<wayN o.una a∧v= .tuple ⟨[.int .i64 0,.int .i64 2]⟩∧H'=H)∨
    (wayN o.una a <= o.sent∧v= .tuple ⟨[.int .i64 (wayN o.una a),.int .i64 0]⟩∧∃da' dc',ORep H' b eb da' dc' t (o.sure (wayN o.una a) w)∧Zv H H' b eb da da'):=by
  have hlen:=h.ok.len;have hsent:=h.ok.sent;have wl:=Znc o.una a;refine Zcjc b t a w ?_;unfold Zbpi;refine (Zhd h).mono ?_;rintro _ H1 ⟨rfl,e⟩;rw [e];clear e H1;obtain ⟨on,unt,frm,hu,h1⟩:=h.blk;refine ⟨true,rfl,ifF rfl ⟨_,cellL h1 4 rfl,(Ziq h.ok.una ha).mono ?_⟩⟩;rintro _ H1 ⟨rfl,e⟩;rw [e];clear e H1;have hwr:IntKind.wrap .i64 ((wayN o.una a:Nat):Int)=(wayN o.una a:Nat):=Zi (by omega) (by omega)
  refine ⟨_,rfl,_,cellL h1 10 rfl,ifF (decide_eq_false (by omega)) ⟨_,cellL h1 6 rfl,?_⟩⟩
  rw [hwr];refine IfB.intro (fun hg=>?_) fun hg=>(Zrc _ _).mono ?_;have hg:=of_decide_eq_true hg;unfold Znm;exact ifT rfl fun H2 hs=> .inl ⟨by omega,rfl,(Zf hs).symm⟩
  . have hg:=of_decide_eq_false hg;rintro _ H1 ⟨rfl,e⟩;rw [e];clear e H1;refine ⟨_,rfl,?_⟩;rw [decide_eq_true (by omega:(w:Int)≥0),decide_eq_true (by omega:(w:Int) <= 65535)]
    unfold Znm;refine ifF rfl (stL h1 (by simp [obL]) rfl fun H2 b2 k2=>stL b2 (by simp [obL]) rfl fun H3 b3 k3=>?_)
    have ok':({ o with win:=w }:Ob).Ok:=⟨h.ok.una,h.ok.len,h.ok.sent,hw,h.ok.big,h.ok.tries⟩
    have h3:ORep H3 b eb da dc t { o with win:=w }:=h.put (k2.trans k3) (on:=on) (unt:=unt) (frm:=frm) b3 hu ok' rfl rfl
    have s3:Zv H H3 b eb da da:=Zv.blk (k2.trans k3);rw [hwr];refine IfB.intro (fun hp=>?_) fun hp=>fun H4 hs=> .inr ⟨by omega,rfl,da,dc,?_,s3.shut hs⟩
    . have hp:=of_decide_eq_true hp;refine (Zbxt h3 (n:=wayN o.una a) (by omega) (by show wayN o.una a <= o.sent;omega)).mono ?_
      rintro _ H4 ⟨rfl,da',dc',h4,s4⟩;exact ⟨rfl,fun H5 hs=> .inr ⟨by omega,rfl,da',dc',h4.shut hs,(s3.trans s4).shut hs⟩⟩
    . have hp:=of_decide_eq_false hp;have h0:wayN o.una a=0:=by omega
      rw [h0,Zcbv o h.ok.una];exact h3.shut hs
theorem Zbxj {u g:Nat} (hu:u<4294967296) (hg:1 <= g∧g <= 1460):FnW Tryz.prog Zym ⟨[.int .u32 u,.int .i64 4096,.int .i64 0,.int .i64 g]⟩ H fun v H'=>
    ∃b eb,v= .tuple ⟨[.pointer (some ⟨b,0,none⟩),.int .i64 0]⟩∧ORep H' b eb none 0 0 ⟨u,[],0,0,g,0⟩∧Keep Nil H H'∧∀y,OFt b eb none y->H y=none:=by
  refine Zckp u 4096 0 g ?_;unfold Zbrd;refine (Zrc _ _).mono ?_;rintro _ H1 ⟨rfl,e⟩;rw [e];refine ⟨_,rfl,ifF rfl ((Zrc _ _).mono ?_)⟩;rintro _ H1 ⟨rfl,e⟩;rw [e];refine ⟨_,rfl,ifF rfl ((Zrc _ _).mono ?_)⟩;rintro _ H1 ⟨rfl,e⟩;rw [e];refine ⟨_,rfl,?_⟩;rw [decide_eq_true (by omega:(g:Int)≥1),decide_eq_true (by omega:(g:Int) <= 65535)]
  unfold Zup;refine ifF rfl (Zbut.mono ?_);rintro _ H2 ⟨eb,rfl,he,e2,k2⟩;refine ⟨_,rfl,NewW.intro fun b hb=>?_⟩;have k3:Keep Nil H2 (H2.upd b (.cells ⟨obL eb false 0 0 none 0 0 ⟨u,[],0,0,g,0⟩⟩ Zgs (0,0))):=(Keep.refl _ _).new hb;have b3:Blk (H2.upd b (.cells ⟨obL eb false 0 0 none 0 0 ⟨u,[],0,0,g,0⟩⟩ Zgs (0,0))) b Zgs ⟨obL eb false 0 0 none 0 0 ⟨u,[],0,0,g,0⟩⟩:=Blk.upd_eq;intro H4 hs;refine ⟨b,eb,rfl,ORep.shut ⟨⟨hu,Nat.zero_le _,Nat.le_refl _,Nat.zero_le _,hg,Nat.zero_le _⟩,⟨false,0,0,by decide,b3⟩,e2.keep k3 id,Sh.Own.nil⟩ hs,Zk (k2.trans k3) hs,fun y hy=>?_⟩
  rcases hy with rfl | rfl | e;exact k2.free hb;exact he;cases e
end
end Go.Proofs.YtaljkjokbdpdoaaGreat
end
section
set_option maxRecDepth 100000
namespace Go.Proofs.YtaljkjokbdpdoaaGreat
open Go.Sh Go.Pc Go.Conn
section
variable {H:Heap}
def U32 (v:Value):Prop:=∃m:Nat,m<4294967296∧v= .int .u32 m
theorem wrapN (z:Int): ∃m:Nat,m<4294967296∧IntKind.wrap .u32 z=m:=⟨(z%4294967296).toNat,by omega,by rw [w32];omega⟩
theorem Zoc (a:Nat) (ha:a<4294967296):Zbc .u32 (a:Int) 65535=((a%65536:Nat):Int):=by
  unfold Zbc;have h1:(BitVec.ofInt (IntKind.bits .u32) (a:Int)).toNat=a:=by show (BitVec.ofInt 32 (a:Int)).toNat=a;rw [BitVec.toNat_ofInt];omega
  have h2:(BitVec.ofInt (IntKind.bits .u32) 65535).toNat=65535:=by decide
  rw [BitVec.toNat_and,h1,h2,w32];have:a&&& 65535=a%65536:=Nat.and_two_pow_sub_one_eq_mod a 16;rw [this];omega
theorem Zbck {n:Nat} (hn:n<4294967296):FnW Tryz.prog Zdf ⟨[.int .u32 n]⟩ H fun v H'=>U32 v∧H'=H:=by
  refine Zbph n ?_;unfold Zbcj;refine Zbo (fun k s H'=>s=((k:Int),())∧k<4294967296∧H'=H) n ⟨rfl,hn,rfl⟩ ?_;rintro k s H' ⟨rfl,hk,e⟩ g;rw [e];unfold Zbci;refine IfB.intro (fun h=>⟨by decide,?_⟩) fun h H2 hs=>⟨⟨k,hk,rfl⟩,(Zf hs).symm⟩
  have h:=of_decide_eq_true h;simp only at h;have e1:Int.fdiv (k:Int) (2^(min (16:Int).toNat (IntKind.bits .u32)))=((k/65536:Nat):Int):=by
    show Int.fdiv (k:Int) 65536=_;rw [Int.fdiv_eq_ediv_of_nonneg _ (by decide)];rfl
  simp only [Zoc k hk];rw [e1,w32];refine ⟨k%65536+k/65536,by omega,?_,by omega,trivial⟩
  have:((((k%65536:Nat):Int))+((k/65536:Nat):Int))%4294967296=((k%65536+k/65536:Nat):Int):=by omega
  rw [this]
theorem Zhk (z:Int):FnW Tryz.prog Zdf ⟨[.int .u32 (IntKind.wrap .u32 z)]⟩ H fun v H'=>U32 v∧H'=H:=by obtain ⟨m,hm,e⟩:=wrapN z;rw [e];exact Zbck hm
theorem Zckn (a b k n:Int):FnW Tryz.prog Zpy ⟨[.int .u32 a,.int .u32 b,.int .u8 k,.int .i64 n]⟩ H fun v H'=>U32 v∧Keep Nil H H':=by
  refine Zbrb a b k n ?_;unfold Zbcs;refine ⟨by decide,by decide,NewW.intro fun q hq=>?_⟩
  have k0:Keep Nil H (H.upd q (.cells ⟨[.int .u32 0,.int .u32 0,.int .u32 0,.int .u32 0,.int .u32 0,.int .u32 0]⟩ Zlb (0,0))):=(Keep.refl _ _).new hq;have b0:Blk (H.upd q (.cells ⟨[.int .u32 0,.int .u32 0,.int .u32 0,.int .u32 0,.int .u32 0,.int .u32 0]⟩ Zlb (0,0))) q Zlb ⟨[.int .u32 0,.int .u32 0,.int .u32 0,.int .u32 0,.int .u32 0,.int .u32 0]⟩:=Blk.upd_eq;have kq: ∀{H1 H2:Heap},Keep Nil H H1->Keep (fun x=>x=q) H1 H2->Keep Nil H H2:=fun k1 k2=>k1.then k2 fun y hy=> .inr (hy▸hq);generalize H.upd q (.cells ⟨[.int .u32 0,.int .u32 0,.int .u32 0,.int .u32 0,.int .u32 0,.int .u32 0]⟩ Zlb (0,0))=H0 at k0 b0 ⊢;refine stL b0 (by simp) rfl fun H1 b1 k1=>stL b1 (by simp) rfl fun H2 b2 k2=>stL b2 (by simp) rfl fun H3 b3 k3=>stL b3 (by simp) rfl fun H4 b4 k4=>stL b4 (by simp) rfl fun H5 b5 k5=>stL b5 (by simp) rfl fun H6 b6 k6=>?_
  have kk:=kq k0 (((((k1.trans k2).trans k3).trans k4).trans k5).trans k6);refine ⟨_,cellL b6 0 rfl,_,cellL b6 1 rfl,_,cellL b6 2 rfl,_,cellL b6 3 rfl,_,cellL b6 4 rfl,_,cellL b6 5 rfl,?_⟩;refine ifT rfl ⟨by decide,by decide,(Zhk _).mono ?_⟩
  rintro _ _ ⟨⟨m1,_,rfl⟩,e⟩;rw [e];refine ⟨_,rfl,ifT rfl ⟨by decide,by decide,(Zhk _).mono ?_⟩⟩
  rintro _ _ ⟨⟨m2,_,rfl⟩,e⟩;rw [e];refine ⟨_,rfl,ifT rfl ⟨by decide,by decide,(Zhk _).mono ?_⟩⟩
  rintro _ _ ⟨⟨m3,_,rfl⟩,e⟩;rw [e];refine ⟨_,rfl,ifT rfl ⟨by decide,by decide,(Zhk _).mono ?_⟩⟩
  rintro _ _ ⟨⟨m4,_,rfl⟩,e⟩;rw [e];refine ⟨_,rfl,ifT rfl ⟨by decide,by decide,(Zhk _).mono ?_⟩⟩
  rintro _ _ ⟨⟨m5,_,rfl⟩,e⟩;rw [e];refine ⟨_,rfl,ifT rfl ⟨by decide,by decide,(Zhk _).mono ?_⟩⟩
  rintro _ _ ⟨⟨m6,h6,rfl⟩,e⟩;rw [e];exact ⟨_,rfl,ifF rfl fun H7 hs=>⟨⟨m6,h6,rfl⟩,Zk kk hs⟩⟩
theorem Zgn {a:Addr} {n:Nat} {l:List Int} (hr:Reads H (some a) n (bv l)) {i:Nat} (hi:i<n) {Q:Addr->Prop} (h: ∀x:Addr,H.cell x=some (.int .u8 (l.getD i 0))->Q x):elemAt a i 1 Q:=by
  obtain ⟨hspot,_⟩:=hr.2 (by omega:0<n)
  have hc:=hr.cell hi;have hl:l.length=n:=by have:=hr.len;simpa using this
  obtain ⟨ab,ao,sp⟩:=a;simp only at hspot;subst hspot;rw [Zw];refine h _ ?_;rw [Nat.mul_one,hc];simp only [bv,List.getElem?_map];rw [List.getD_eq_getElem?_getD,List.getElem?_eq_getElem (by omega)];rfl
theorem Zcbq {p n c:Nat} {a:Option Addr} {l:List Int} (hp:p<4294967296) (hr:Reads H a n (bv l)) (hn:n <= 1000000):FnW Tryz.prog Zol ⟨[.int .u32 p,.slice a n c]⟩ H fun v H'=>U32 v∧H'=H:=by
  refine Zbit p a n c ?_;unfold Zbbd;refine (Zbck hp).mono ?_;rintro _ _ ⟨⟨m,hm,rfl⟩,e⟩;rw [e];refine ⟨_,rfl,by decide,Zbo (fun k s H'=>H'=H∧∃i m:Nat,m<4294967296∧s=((m:Int),((i:Int),()))∧k=n - i∧i <= n/2) n ⟨rfl,0,m,hm,rfl,rfl,Nat.zero_le _⟩ ?_⟩
  rintro k s H' ⟨e,i,m,hm,rfl,rfl,hi⟩ g;rw [e];clear e H';have htd:IntKind.wrap .i64 (Int.tdiv (n:Int) 2)=((n/2:Nat):Int):=by rw [Int.tdiv_eq_ediv_of_nonneg (by omega),Zi (by omega) (by omega)];omega
  have htm:Int.tmod (n:Int) 2=((n%2:Nat):Int):=by rw [Int.tmod_eq_emod_of_nonneg (by omega)];omega
  unfold Zbbc;rw [htd,htm];refine IfB.intro (fun h=>?_) fun h=>⟨by decide,IfB.intro (fun h2=>?_) fun h2 H2 hs=>⟨⟨m,hm,rfl⟩,(Zf hs).symm⟩⟩
  . have h:=of_decide_eq_true h;simp only at h;have w1:IntKind.wrap .i64 (2*(i:Int))=((2*i:Nat):Int):=by rw [Zi (by omega) (by omega)];omega
    have w2:IntKind.wrap .i64 (((2*i:Nat):Int)+1)=((2*i+1:Nat):Int):=by rw [Zi (by omega) (by omega)];omega
    have w3:IntKind.wrap .i64 ((i:Int)+1)=((i+1:Nat):Int):=by rw [Zi (by omega) (by omega)];omega
    simp only [w1,w2,w3];cases a with
    | none=>have:=hr.2;simp only at this;omega
    | some a=>
      refine NilP.intro _ rfl (InB.intro (2*i) rfl (by omega) (Zgn hr (by omega) fun x hx=>⟨_,hx,by decide,NilP.intro _ rfl (InB.intro (2*i+1) rfl (by omega) (Zgn hr (by omega) fun y hy=>⟨_,hy,(Zhk _).mono ?_⟩))⟩))
      rintro _ _ ⟨⟨m',hm',rfl⟩,e⟩;rw [e];exact ⟨_,rfl,n - (i+1),by omega,rfl,i+1,m',hm',rfl,rfl,by omega⟩
  . have h2:((n%2:Nat):Int)=1:=by simpa using h2
    have w1:IntKind.wrap .i64 ((n:Int) - 1)=((n - 1:Nat):Int):=by rw [Zi (by omega) (by omega)];omega
    rw [w1];cases a with
    | none=>have:=hr.2;simp only at this;omega
    | some a=>
      refine NilP.intro _ rfl (InB.intro (n - 1) rfl (by omega) (Zgn hr (by omega) fun x hx=>⟨_,hx,by decide,(Zhk _).mono ?_⟩))
      rintro _ _ ⟨hm',e⟩;obtain ⟨m',hm',rfl⟩:=hm';rw [e];exact ⟨_,rfl,fun H2 hs=>⟨⟨m',hm',rfl⟩,(Zf hs).symm⟩⟩
theorem Zcko {p:Nat} (hp:p<4294967296):FnW Tryz.prog Zpz ⟨[.int .u32 p]⟩ H fun v H'=>(∃m,v= .int .u16 m)∧H'=H:=by refine Zbrc p ?_;unfold Zbct;refine (Zbck hp).mono ?_;rintro _ _ ⟨⟨m,hm,rfl⟩,e⟩;rw [e];exact ⟨_,rfl,fun H2 hs=>⟨⟨_,rfl⟩,(Zf hs).symm⟩⟩
theorem Zccf {x y:Int} {n c:Nat} {a:Option Addr} {l:List Int} (hr:Reads H a n (bv l)) (hn:n <= 1000000):FnW Tryz.prog Zmh ⟨[.int .u32 x,.int .u32 y,.slice a n c]⟩ H fun v H'=>U32 v∧Keep Nil H H':=by refine Zbrt x y a n c ?_;unfold Zbcu;refine (Zckn _ _ _ _).mono ?_;rintro _ H1 ⟨⟨m,hm,rfl⟩,k1⟩;refine ⟨_,rfl,(Zcbq hm (hr.keep k1 fun _ _ h=>h) hn).mono ?_⟩;rintro _ _ ⟨⟨m',hm',rfl⟩,e⟩;rw [e];exact ⟨_,rfl,fun H2 hs=>⟨⟨m',hm',rfl⟩,Zk k1 hs⟩⟩
def RowB (H:Heap) (m cap:Nat):Prop:=∃l:List Int,l.length=cap∧Blk H m Zh ⟨bv l⟩
theorem RowB.st {m cap o:Nat} (h:RowB H m cap) (ho:o<cap) (x:Int) {K:Heap->Prop} (hk: ∀H',RowB H' m cap->Keep (fun y=>y=m) H H'->K H'):Za H ⟨m,o,none⟩ (.int .u8 x) K:=by
  obtain ⟨l,h1,h2⟩:=h;refine stL h2 (by simp;omega) rfl fun H' b k=>hk H' ⟨l.set o x,by simp [h1],?_⟩ k
  have:bv (l.set o x)=(bv l).set o (.int .u8 x):=by simp [bv,List.map_set]
  rw [this];exact b
theorem Zrj {m cap o n c:Nat} {x:Int} (h:RowB H m cap) (hn:2 <= n) (hc:o+n <= cap):FnW Tryz.prog Zct ⟨[.slice (some ⟨m,o,none⟩) n c,.int .i64 x]⟩ H fun v H'=>v= .tuple ⟨[]⟩∧RowB H' m cap∧Keep (fun y=>y=m) H H':=by
  refine Zso _ n c x ?_;unfold Zne;refine ⟨by decide,NilP.intro _ rfl (InB.intro 0 rfl (by omega) ?_)⟩
  rw [Zw];refine RowB.st h (by omega) _ fun H1 h1 k1=>NilP.intro _ rfl (InB.intro 1 rfl (by omega) ?_)
  rw [Zw];exact RowB.st h1 (by omega) _ fun H2 h2 k2=>fun H3 hs=>⟨rfl,by obtain ⟨l,q1,q2⟩:=h2;exact ⟨l,q1,Zcb q2 hs⟩,Zbl (k1.trans k2) hs⟩
theorem Zbdh {m o k n c:Nat} (hk:k <= n): ∃o',(if c=k then some ⟨m,o,none⟩ else Option.map (fun a=>Addr.add a (k*1)) (some (⟨m,o,none⟩:Addr)))=some ⟨m,o',none⟩∧(c≠k->o'=o+k):=by by_cases e:c=k;rw [if_pos e];exact ⟨o,rfl,fun h=>absurd e h⟩;rw [if_neg e,Option.map_some,Zdj rfl];exact ⟨o+k,by simp,fun _=>rfl⟩
theorem Zbys {m cap o n c:Nat} {x:Int} (h:RowB H m cap) (hn:4 <= n) (hc:o+n <= cap) (hnc:n <= c):FnW Tryz.prog Zid ⟨[.slice (some ⟨m,o,none⟩) n c,.int .u32 x]⟩ H fun v H'=>v= .tuple ⟨[]⟩∧RowB H' m cap∧Keep (fun y=>y=m) H H':=by
  refine Zbqr _ n c x ?_;unfold Zbco;refine ⟨by decide,(Zrj h (by omega) hc).mono ?_⟩
  rintro _ H1 ⟨rfl,h1,k1⟩;refine ⟨rfl,InC.intro 2 rfl (by omega) ?_⟩
  obtain ⟨o',e,eo⟩:=Zbdh (m:=m) (o:=o) (k:=2) (n:=n) (c:=c) (by omega)
  rw [e];have eo:=eo (by omega)
  refine (Zrj h1 (by omega) (by omega)).mono ?_
  rintro _ H2 ⟨rfl,h2,k2⟩;exact ⟨rfl,fun H3 hs=>⟨rfl,by obtain ⟨l,q1,q2⟩:=h2;exact ⟨l,q1,Zcb q2 hs⟩,Zbl (k1.trans k2) hs⟩⟩
end
end Go.Proofs.YtaljkjokbdpdoaaGreat
end
section
set_option maxRecDepth 100000
namespace Go.Pc
open Go.Sh
theorem newB {H:Heap} {l:List Value} {T:TypeId} {K:Nat->Heap->Prop} (h: ∀q H',H q=none->Blk H' q T ⟨l⟩->Keep Nil H H'->K q H'):NewW H (.cells ⟨l⟩ T) K:=
  NewW.intro fun q hq=>h q _ hq Blk.upd_eq ((Keep.refl _ _).new hq)
end Go.Pc
namespace Go.Proofs.YtaljkjokbdpdoaaGreat
open Go.Sh Go.Pc Go.Conn
abbrev sgL (s:Sg) (a:Option Addr) (n c:Nat):List Value:=[.int .i64 s.src,.int .i64 s.dst,.int .u32 s.seq,.int .u32 s.ack,.int .i64 s.flags,.int .i64 s.win,.int .i64 s.urg,.int .i64 s.big,.slice a n c]
theorem ld9 {H:Heap} {q n c:Nat} {T:TypeId} {s:Sg} {a:Option Addr} {K:Int->Int->Int->Int->Int->Int->Int->Int->Option Addr->Nat->Nat->Prop} (hb:Blk H q T ⟨sgL s a n c⟩) (h:K s.src s.dst s.seq s.ack s.flags s.win s.urg s.big a n c):
    ∃x0:Int,H.cell ⟨q,0,none⟩=some (Value.int .i64 x0)∧∃x1:Int,H.cell ⟨q,1,none⟩=some (Value.int .i64 x1)∧∃x2:Int,H.cell ⟨q,2,none⟩=some (Value.int .u32 x2)∧∃x3:Int,H.cell ⟨q,3,none⟩=some (Value.int .u32 x3)∧∃x4:Int,H.cell ⟨q,4,none⟩=some (Value.int .i64 x4)∧∃x5:Int,H.cell ⟨q,5,none⟩=some (Value.int .i64 x5)∧∃x6:Int,H.cell ⟨q,6,none⟩=some (Value.int .i64 x6)∧∃x7:Int,H.cell ⟨q,7,none⟩=some (Value.int .i64 x7)∧∃(x8:Option Addr) (x9 x10:Nat),H.cell ⟨q,8,none⟩=some (Value.slice x8 x9 x10)∧K x0 x1 x2 x3 x4 x5 x6 x7 x8 x9 x10:=
  ⟨_,cellL hb 0 rfl,_,cellL hb 1 rfl,_,cellL hb 2 rfl,_,cellL hb 3 rfl,_,cellL hb 4 rfl,_,cellL hb 5 rfl,_,cellL hb 6 rfl,_,cellL hb 7 rfl,_,_,_,cellL hb 8 rfl,h⟩
theorem st9 {H:Heap} {q:Nat} {T:TypeId} {v0 v1 v2 v3 v4 v5 v6 v7 v8:Value} {s:Sg} {a:Option Addr} {n c:Nat} {K:Heap->Prop} (hb:Blk H q T ⟨[v0,v1,v2,v3,v4,v5,v6,v7,v8]⟩) (h: ∀H',Blk H' q T ⟨sgL s a n c⟩->Keep (fun x=>x=q) H H'->K H'):
    Za H ⟨q,0,none⟩ (.int .i64 s.src) fun H1=>Za H1 ⟨q,1,none⟩ (.int .i64 s.dst) fun H2=>Za H2 ⟨q,2,none⟩ (.int .u32 s.seq) fun H3=>Za H3 ⟨q,3,none⟩ (.int .u32 s.ack) fun H4=>Za H4 ⟨q,4,none⟩ (.int .i64 s.flags) fun H5=>Za H5 ⟨q,5,none⟩ (.int .i64 s.win) fun H6=>Za H6 ⟨q,6,none⟩ (.int .i64 s.urg) fun H7=>Za H7 ⟨q,7,none⟩ (.int .i64 s.big) fun H8=>Za H8 ⟨q,8,none⟩ (.slice a n c) K:=
  stL hb (by simp) rfl fun H1 b1 k1=>stL b1 (by simp) rfl fun H2 b2 k2=>stL b2 (by simp) rfl fun H3 b3 k3=>stL b3 (by simp) rfl fun H4 b4 k4=>stL b4 (by simp) rfl fun H5 b5 k5=>stL b5 (by simp) rfl fun H6 b6 k6=>stL b6 (by simp) rfl fun H7 b7 k7=>stL b7 (by simp) rfl fun H8 b8 k8=>stL b8 (by simp) rfl fun H9 b9 k9=>
    h H9 b9 ((((((((k1.trans k2).trans k3).trans k4).trans k5).trans k6).trans k7).trans k8).trans k9)
section
variable {H:Heap} {s:Sg} {a:Option Addr} {n c:Nat}
theorem Zbtk (k:Nat) (hk:k=0∨k=1∨k=2∨k=4) {f:Int} (h0:0 <= f) (h1:f<64):(Zbc .i64 (Int.fdiv f (2^(min ((k:Nat):Int).toNat (IntKind.bits .i64)))) 1==1)=bitB f k:=by
  have key:((List.range 64).all fun f=>[0,1,2,4].all fun k=>(Zbc .i64 (Int.fdiv (f:Int) (2^(min ((k:Nat):Int).toNat (IntKind.bits .i64)))) 1==1)==bitB (f:Int) k)=true:=by kernel_rfl
  have h:=List.all_eq_true.1 key f.toNat (List.mem_range.2 (by omega))
  have h:=List.all_eq_true.1 h k (by simp;omega)
  have e:((f.toNat:Nat):Int)=f:=by omega
  rw [e] at h;exact beq_iff_eq.1 h
theorem Zod {f:Int} (h0:0 <= f) (h1:f<64):(Zbc .i64 f 1 !=0)=bitB f 0∧(Zbc .i64 f 2 !=0)=bitB f 1∧(Zbc .i64 f 4 !=0)=bitB f 2∧(Zbc .i64 f 16 !=0)=bitB f 4∧(Zbc .i64 f 21 !=0)=(bitB f 4||bitB f 2||bitB f 0):=by
  have key:((List.range 64).all fun f=>((Zbc .i64 (f:Int) 1 !=0)==bitB f 0)&&((Zbc .i64 (f:Int) 2 !=0)==bitB f 1)&&((Zbc .i64 (f:Int) 4 !=0)==bitB f 2)&&((Zbc .i64 (f:Int) 16 !=0)==bitB f 4)&&((Zbc .i64 (f:Int) 21 !=0)==(bitB f 4||bitB f 2||bitB f 0)))=true:=by kernel_rfl
  have h:=List.all_eq_true.1 key f.toNat (List.mem_range.2 (by omega))
  have e:((f.toNat:Nat):Int)=f:=by omega
  simp only [e,Bool.and_eq_true,beq_iff_eq] at h;exact ⟨h.1.1.1.1,h.1.1.1.2,h.1.1.2,h.1.2,h.2⟩
theorem Zrs {k:Nat} (hk:k=0∨k=1∨k=2∨k=4) (h0:0 <= s.flags) (h1:s.flags<64):FnW Tryz.prog Zjl ⟨[.agg ⟨sgL s a n c⟩,.int .i64 k]⟩ H fun v H'=>v= .bool (s.has k)∧Keep Nil H H':=by
  refine Zcdz _ _ _ _ _ _ _ _ a n c k ?_;unfold Zbkj;refine newB fun q H1 hq b k1=>⟨_,cellL b 4 rfl,ifT (decide_eq_true h0) ⟨_,cellL b 4 rfl,by omega,fun H2 hs=>⟨?_,Zk k1 hs⟩⟩⟩
  rw [Zbtk k hk h0 h1];rfl
theorem Zdo (h0:0 <= s.flags) (h1:s.flags<64) {f:Int} {r:Bool} (hf:(Zbc .i64 s.flags f !=0)=r):FnW Tryz.prog Zcn ⟨[.agg ⟨sgL s a n c⟩,.int .i64 f]⟩ H fun v H'=>v= .bool r∧Keep Nil H H':=by refine Zcid _ _ _ _ _ _ _ _ a n c f ?_;unfold Zbob;refine newB fun q H1 hq b k1=>⟨_,cellL b 4 rfl,fun H2 hs=>⟨?_,Zk k1 hs⟩⟩;rw [hf]
theorem Zmm {x:Int} {P:Bool->Prop} (h:P (!i16 x)):IfB (decide (x<0)) (P true) (P (decide (x>65535))):=by
  unfold i16 at h;refine IfB.intro (fun h1=>?_) fun h1=>?_
  . have h1:=of_decide_eq_true h1;rw [decide_eq_false (by omega)] at h
    exact h
  . have h1:=of_decide_eq_false h1;rw [decide_eq_true (by omega:(0:Int) <= x)] at h
    have e:(!(true&&decide (x <= 65535)))=decide (x>65535):=by
      rw [Bool.true_and];by_cases h2:x <= 65535
      . rw [decide_eq_true h2,decide_eq_false (by omega)];rfl
      . rw [decide_eq_false h2,decide_eq_true (by omega)];rfl
    rw [e] at h;exact h
theorem Zbey:FnW Tryz.prog Zwm ⟨[.agg ⟨sgL s a n c⟩]⟩ H fun v H'=>v= .bool s.fits∧Keep Nil H H':=by
  refine Zcgo _ _ _ _ _ _ _ _ a n c ?_;unfold Zbmn;refine newB fun q H1 hq b k1=>⟨_,cellL b 0 rfl,_,cellL b 1 rfl,_,cellL b 5 rfl,_,cellL b 6 rfl,_,cellL b 7 rfl,?_⟩;have bad: ∀r:Bool,r=false->∀H2,Shut H H1 H2->Value.bool false= .bool r∧Keep Nil H H2:=fun r hr H2 hs=>⟨by rw [hr],Zk k1 hs⟩
  refine ifT rfl ⟨by decide,by decide,Zmm (P:=fun z=>Zse q s.src s.dst s.win s.urg s.big z H1 _) ?_⟩
  unfold Zse;refine IfB.intro (fun h=>bad _ (by unfold Sg.fits;cases e:i16 s.src<;>rw [e] at h<;>first | rfl | cases h)) fun g0=>ifT rfl ⟨by decide,by decide,Zmm (P:=fun z=>Zsf q s.src s.dst s.win s.urg s.big z H1 _) ?_⟩
  unfold Zsf;have g0:i16 s.src=true:=by cases e:i16 s.src<;>rw [e] at g0<;>first | rfl | cases g0
  refine IfB.intro (fun h=>bad _ (by unfold Sg.fits;rw [g0];cases e:i16 s.dst<;>rw [e] at h<;>first | rfl | cases h)) fun g1=>ifT rfl ⟨by decide,by decide,Zmm (P:=fun z=>Zsg q s.src s.dst s.win s.urg s.big z H1 _) ?_⟩
  unfold Zsg;have g1:i16 s.dst=true:=by cases e:i16 s.dst<;>rw [e] at g1<;>first | rfl | cases g1
  refine IfB.intro (fun h=>bad _ (by unfold Sg.fits;rw [g0,g1];cases e:i16 s.win<;>rw [e] at h<;>first | rfl | cases h)) fun g2=>ifT rfl ⟨by decide,by decide,Zmm (P:=fun z=>Zsh q s.src s.dst s.win s.urg s.big z H1 _) ?_⟩
  unfold Zsh;have g2:i16 s.win=true:=by cases e:i16 s.win<;>rw [e] at g2<;>first | rfl | cases g2
  refine IfB.intro (fun h=>bad _ (by unfold Sg.fits;rw [g0,g1,g2];cases e:i16 s.urg<;>rw [e] at h<;>first | rfl | cases h)) fun g3=>ifT rfl ⟨by decide,by decide,Zmm (P:=fun z=>Zsi q s.src s.dst s.win s.urg s.big z H1 _) ?_⟩
  unfold Zsi;have g3:i16 s.urg=true:=by cases e:i16 s.urg<;>rw [e] at g3<;>first | rfl | cases g3
  refine IfB.intro (fun h=>bad _ (by unfold Sg.fits;rw [g0,g1,g2,g3];cases e:i16 s.big<;>rw [e] at h<;>first | rfl | cases h)) fun g4=>ifF rfl ⟨_,cellL b 4 rfl,IfB.intro (fun h=>⟨_,cellL b 4 rfl,fun H2 hs=>⟨?_,Zk k1 hs⟩⟩) fun h=>bad _ ?_⟩
  . have g4:i16 s.big=true:=by cases e:i16 s.big<;>rw [e] at g4<;>first | rfl | cases g4
    have h:=of_decide_eq_true h;unfold Sg.fits;rw [g0,g1,g2,g3,g4,decide_eq_true (by omega:0 <= s.flags)];rfl
  have h:=of_decide_eq_false h;unfold Sg.fits;rw [decide_eq_false (by omega: ¬0 <= s.flags),Bool.and_false,Bool.false_and]
theorem Sg.fits_flags {s:Sg} (h:s.fits=true):0 <= s.flags∧s.flags<64:=by unfold Sg.fits at h;simp only [Bool.and_eq_true,decide_eq_true_eq] at h;exact ⟨h.1.2,h.2⟩
theorem Zbxg:FnW Tryz.prog Zop ⟨[.agg ⟨sgL s a n c⟩]⟩ H fun v H'=>∃a2 l c2,v= .slice a2 l.length c2∧Reads H' a2 l.length (bv l)∧l.length <= 4∧Keep Nil H H':=by
  refine Zbki _ _ _ _ _ _ _ _ a n c ?_;unfold Zbbs;refine newB fun q H1 hq b k1=>⟨_,cellL b 7 rfl,IfB.intro (fun _ H2 hs=>⟨none,[],0,rfl,Reads.nil,by decide,Zk k1 hs⟩) fun _=>⟨_,cellL b 7 rfl,by decide,_,cellL b 7 rfl,newB fun r H2 hr b2 k2 H3 hs=>?_⟩⟩
  refine ⟨some ⟨r,0,none⟩,[2,4,IntKind.wrap .u8 (Int.fdiv s.big (2^(min (8:Int).toNat (IntKind.bits .i64)))),IntKind.wrap .u8 s.big],4,rfl,Reads.blk (Zcb b2 hs) rfl fun j hj=>?_,Nat.le_refl _,Zk (k1.trans k2) hs⟩;rw [Nat.zero_add,List.getElem?_toArray];rfl
theorem Znu (h0:0 <= s.flags) (h1:s.flags<64) (hn:s.data.length=n) (hl:n <= 1000000):FnW Tryz.prog Zjt ⟨[.agg ⟨sgL s a n c⟩]⟩ H fun v H'=>v= .int .i64 s.span∧Keep Nil H H':=by
  refine Zcio _ _ _ _ _ _ _ _ a n c ?_;unfold Zbop;refine newB fun q H1 hq b k1=>⟨_,_,_,cellL b 8 rfl,ifT rfl ⟨by decide,by decide,ld9 b ((Zrs (k:=1) (.inr (.inl rfl)) h0 h1).mono ?_)⟩⟩
  rintro _ H2 ⟨rfl,k2⟩;refine ⟨_,rfl,?_⟩;have b2:=k2.blk b id;have tail: ∀m:Nat,m <= 1000001->Zth q (m:Int) H2 fun v H1=>∀H2,Shut H H1 H2->v= .int .i64 ((m+if s.has 0 then 1 else 0:Nat):Int)∧Keep Nil H H2:=by
    intro m hm;unfold Zth;refine ifT rfl ⟨by decide,by decide,ld9 b2 ((Zrs (k:=0) (.inl rfl) h0 h1).mono ?_)⟩
    rintro _ H3 ⟨rfl,k3⟩;refine ⟨_,rfl,?_⟩;unfold Zbcd;cases s.has 0 with
    | true=>
      refine ifT rfl (ifF rfl fun H4 hs=>⟨?_,Zk ((k1.trans k2).trans k3) hs⟩);rw [Zi (by omega) (by omega)];rfl
    | false=>exact ifF rfl (ifF rfl fun H4 hs=>⟨rfl,Zk ((k1.trans k2).trans k3) hs⟩)
  have e:s.span=(n+if s.has 1 then 1 else 0)+if s.has 0 then 1 else 0:=by unfold Sg.span;rw [hn];rfl
  rw [e];cases s.has 1 with
  | true=>
    have hw:IntKind.wrap .i64 ((n:Int)+1)=((n+1:Nat):Int):=by rw [Zi (by omega) (by omega)];omega
    rw [hw];exact ifT rfl (tail (n+1) (by omega))
  | false=>exact ifF rfl (tail n (by omega))
end
end Go.Proofs.YtaljkjokbdpdoaaGreat
end
section
set_option maxRecDepth 100000
namespace Go.Proofs.YtaljkjokbdpdoaaGreat
open Go.Sh Go.Pc Go.Conn
section
variable {H:Heap} {s:Sg} {a:Option Addr} {n c:Nat}
theorem Zbwp {l k:Nat} {K:Value->Heap->Prop} (hlk:l <= k) (hk:k <= 1000000) (h: ∀m H',H m=none->RowB H' m k->Keep Nil H H'->K (.slice (some ⟨m,0,none⟩) l k) H'):Zcw Tryz.prog Zd (.int .i64 l) (.int .i64 k) H K:=by
  obtain ⟨it,i1,i2,i3⟩:=Zog;refine Zcw.intro (e:=Zh) (z:=[.int .u8 0]) (by kernel_rfl) i1 (by kernel_rfl) (by rw [i2];rfl) hlk (by omega) (by rw [i3];omega) fun m hm=>?_
  refine h m _ hm ⟨List.replicate k 0,by simp,?_⟩ ((Keep.refl _ _).new hm)
  have:repL k [Value.int .u8 0]=bv (List.replicate k 0):=by
    apply List.ext_getElem?
    intro i;by_cases hi:i<k;rw [Zmv _ _ _ hi];simp [bv,hi];rw [List.getElem?_eq_none (by rw [Zrq];omega),List.getElem?_eq_none (by simp;omega)]
  rw [this];exact Blk.upd_eq
theorem RowB.own {H0:Heap} {m k l:Nat} (h:RowB H m k) (hl:l <= k) (h0:H0 m=none): ∃xs:List Int,xs.length=l∧Sh.Own H0 H (some ⟨m,0,none⟩) l k 1 Zh (bv xs):=by
  obtain ⟨ys,h1,h2⟩:=h;refine ⟨ys.take l,by simp;omega,by simp;omega,hl,.inr ⟨m,bv (ys.drop l),rfl,h0,?_,by simp;omega⟩⟩
  rw [← Zof,List.take_append_drop];exact h2
theorem Zbyr {H0:Heap} {a':Option Addr} {l k o:Nat} {xs:List Int} {x:Int} (h:Sh.Own H0 H a' l k 1 Zh (bv xs)) (ho:o+2 <= l):
    FnW Tryz.prog Zct ⟨[.slice (if k=o then a' else Option.map (fun a=>Addr.add a (o*1)) a') (l - o) (k - o),.int .i64 x]⟩ H fun v H'=>v= .tuple ⟨[]⟩∧Keep (fun y=>a'=some ⟨y,0,none⟩) H H':=by
  obtain ⟨h1,h2,h3⟩:=h;rcases h3 with ⟨_,e,_⟩ | ⟨m,rest,e,h0,hB,hr⟩;omega
  . subst e;have hne:k≠o:=by omega
    rw [if_neg hne,Option.map_some,Zdj rfl];have h1:xs.length=l:=by simpa using h1
    refine Zso _ _ _ x ?_;unfold Zne;refine ⟨by decide,NilP.intro _ rfl (InB.intro 0 rfl (by omega) ?_)⟩
    rw [Zw];refine stL hB (by simp;omega) rfl fun H1 b1 k1=>NilP.intro _ rfl (InB.intro 1 rfl (by omega) ?_)
    rw [Zw];refine stL b1 (by simp;omega) rfl fun H2 b2 k2=>fun H3 hs=>⟨rfl,Zbl ((k1.trans k2).mono fun y e=>by rw [e]) hs⟩
theorem sl20 {m c k:Nat} (hk:k <= 20) (hc:20 <= c): ∃o',(if c=k then some ⟨m,0,none⟩ else Option.map (fun a=>Addr.add a (k*1)) (some (⟨m,0,none⟩:Addr)))=some ⟨m,o',none⟩∧o'+(20 - k) <= c:=by obtain ⟨o',e,eo⟩:=Zbdh (m:=m) (o:=0) (k:=k) (n:=20) (c:=c) hk;refine ⟨o',e,?_⟩;by_cases h:c=k;rw [if_pos h] at e;cases e;omega;have:=eo h;omega
theorem Zbsi (x y:Int) (hr:Reads H a n (bv s.data)) (hs8:n <= 65495∨True):FnW Tryz.prog Zmi ⟨[.int .u32 x,.int .u32 y,.agg ⟨sgL s a n c⟩]⟩ H fun v H'=>(∃a' n' c' e,v= .tuple ⟨[.slice a' n' c',.int .i64 e]⟩∧(e==0)=s.can)∧Keep Nil H H':=by
  have hdl:s.data.length=n:=by have:=hr.len;simpa using this
  refine Zbru x y _ _ _ _ _ _ _ _ a n c ?_;unfold Zbcv;refine newB fun q H1 hq b1 k1=>ld9 b1 (Zbey.mono ?_);rintro _ H2 ⟨rfl,k2⟩;have kk2:=k1.trans k2;have b2:=k2.blk b1 id;refine ⟨_,rfl,IfB.intro (fun hf H3 hs=>⟨⟨_,_,_,2,rfl,?_⟩,Zk kk2 hs⟩) fun hf=>⟨_,_,_,cellL b2 8 rfl,IfB.intro (fun hl H3 hs=>⟨⟨_,_,_,3,rfl,?_⟩,Zk kk2 hs⟩) fun hl=>ld9 b2 (Zbxg.mono ?_)⟩⟩
  . unfold Sg.can;cases e:s.fits with
    | true=>rw [e] at hf;cases hf
    | false=>rfl
  . have hl:=of_decide_eq_true hl;unfold Sg.can;rw [decide_eq_false (by omega),Bool.and_false];rfl
  have hl:=of_decide_eq_false hl;have hcan:s.can=true:=by
    unfold Sg.can;rw [decide_eq_true (by omega:s.data.length <= 65495),Bool.and_true]
    cases e:s.fits with
    | true=>rfl
    | false=>rw [e] at hf;cases hf
  rintro _ H3 ⟨oa,ol,oc,rfl,or,hol,k3⟩;have b3:=k3.blk b2 id;have hw:IntKind.wrap .i64 (IntKind.wrap .i64 (20+(ol.length:Int))+(n:Int))=((20+ol.length+n:Nat):Int):=by
    rw [Zi (n:=20+(ol.length:Int)) (by omega) (by omega),Zi (by omega) (by omega)];omega
  refine ⟨_,_,_,rfl,_,_,_,cellL b3 8 rfl,?_⟩;rw [hw];refine Zbwp (l:=20) (by omega) (by omega) fun m H4 hm r4 k4=>⟨_,_,_,rfl,?_⟩
  have hcap:20 <= 20+ol.length+n:=by omega
  generalize hC:20+ol.length+n=C at*;have b4:=k4.blk b3 id;have hmq:q≠m:=fun e=>b3.some (e▸hm);have p16: ∀{Hx:Heap} {k:Nat} {z:Int} {K:Value->Heap->Prop},RowB Hx m C->Blk Hx q Zm ⟨sgL s a n c⟩->k+2 <= 20->(∀Hy,RowB Hy m C->Blk Hy q Zm ⟨sgL s a n c⟩->Keep (fun y=>y=m) Hx Hy->K (.tuple ⟨[]⟩) Hy)->
      FnW Tryz.prog Zct ⟨[.slice (if C=k then some ⟨m,0,none⟩ else Option.map (fun a=>Addr.add a (k*1)) (some (⟨m,0,none⟩:Addr))) (20 - k) (C - k),.int .i64 z]⟩ Hx K:=by
    intro Hx k z K hrow hb hk hK;obtain ⟨o',e,ho⟩:=sl20 (m:=m) (c:=C) (k:=k) (by omega) hcap
    rw [e];refine (Zrj hrow (by omega) ho).mono ?_
    rintro _ Hy ⟨rfl,ry,ky⟩;exact hK Hy ry (ky.blk hb hmq) ky
  have p32: ∀{Hx:Heap} {k:Nat} {z:Int} {K:Value->Heap->Prop},RowB Hx m C->Blk Hx q Zm ⟨sgL s a n c⟩->k+4 <= 20->(∀Hy,RowB Hy m C->Blk Hy q Zm ⟨sgL s a n c⟩->Keep (fun y=>y=m) Hx Hy->K (.tuple ⟨[]⟩) Hy)->
      FnW Tryz.prog Zid ⟨[.slice (if C=k then some ⟨m,0,none⟩ else Option.map (fun a=>Addr.add a (k*1)) (some (⟨m,0,none⟩:Addr))) (20 - k) (C - k),.int .u32 z]⟩ Hx K:=by
    intro Hx k z K hrow hb hk hK;obtain ⟨o',e,ho⟩:=sl20 (m:=m) (c:=C) (k:=k) (by omega) hcap
    rw [e];refine (Zbys hrow (by omega) ho (by omega)).mono ?_
    rintro _ Hy ⟨rfl,ry,ky⟩;exact hK Hy ry (ky.blk hb hmq) ky
  refine ⟨_,cellL b4 0 rfl,?_⟩;refine (Zrj r4 (by omega) (by omega)).mono ?_
  rintro _ H5 ⟨rfl,r5,k5⟩;have b5:=k5.blk b4 hmq;refine ⟨rfl,InC.intro 2 rfl (by omega) ⟨_,cellL b5 1 rfl,p16 r5 b5 (by omega) fun H6 r6 b6 k6=>⟨rfl,InC.intro 4 rfl (by omega) ⟨_,cellL b6 2 rfl,p32 r6 b6 (by omega) fun H7 r7 b7 k7=>⟨rfl,InC.intro 8 rfl (by omega) ⟨_,cellL b7 3 rfl,p32 r7 b7 (by omega) fun H8 r8 b8 k8=>⟨rfl,?_⟩⟩⟩⟩⟩⟩⟩
  obtain ⟨kp1,_⟩:=Zcq b8.some;refine ⟨[q],kp1,by decide,by decide,List.mem_singleton.2 rfl,_,cellL b8 4 rfl,NilP.intro _ rfl (InB.intro 12 rfl (by omega) ?_)⟩
  rw [Zw];refine RowB.st r8 (by omega) _ fun H9 r9 k9=>⟨fun y hy=>?_,NilP.intro _ rfl (InB.intro 13 rfl (by omega) ?_)⟩
  rw [List.mem_singleton.1 hy];have hbs: ∃ob,H8 q=some ob:=⟨_,b8⟩;exact ⟨hbs,k9.same q hmq b8.some⟩;rw [Zw];refine RowB.st r9 (by omega) _ fun H10 r10 k10=>InC.intro 14 rfl (by omega) ?_
  have b10:=k10.blk (k9.blk b8 hmq) hmq;refine ⟨_,cellL b10 5 rfl,p16 r10 b10 (by omega) fun H11 r11 b11 k11=>⟨rfl,InC.intro 18 rfl (by omega) ⟨_,cellL b11 6 rfl,p16 r11 b11 (by omega) fun H12 r12 b12 k12=>⟨rfl,?_⟩⟩⟩⟩
  obtain ⟨kp2,_⟩:=Zcq b12.some;have km:Keep (fun y=>y=m) H4 H12:=(((((((k5.trans k6).trans k7).trans k8).trans k9).trans k10).trans k11).trans k12);have kH:Keep Nil H H12:=((kk2.trans k3).trans k4).then km fun y hy=> .inr ((kk2.trans k3).free (hy▸hm));have kH3:Keep Nil H3 H12:=k4.then km fun y hy=> .inr (hy▸hm);obtain ⟨xs,hxl,o12⟩:=r12.own (H0:=H3) (l:=20) (by omega) hm
  refine ⟨[q],kp2,List.mem_singleton.2 rfl,_,_,_,cellL b12 8 rfl,Zgt o12 kH3 (or.keep kH3 fun _ _ h=>h) (by omega) fun a13 c13 H13 o13 _ k13 kk13=>⟨_,_,_,rfl,fun y hy=>?_,?_⟩⟩
  rw [List.mem_singleton.1 hy];have hbs: ∃ob,H12 q=some ob:=⟨_,b12⟩;refine ⟨hbs,k13.same q (fun e=>?_) b12.some⟩;cases e;exact hmq rfl;have hr13:Reads H13 a n (bv s.data):=hr.keep (((kk2.trans k3)).trans kk13) fun _ _ h=>h;refine Zgt o13 kk13 hr13 (by omega) fun a14 c14 H14 o14 _ k14 kk14=>⟨_,_,_,rfl,InC.intro 16 rfl (by omega) ?_⟩
  have r14:Reads H14 a14 (20+ol.length+n) (bv (xs++ol++s.data)):=by have:=o14.reads;rwa [Nat.mul_one] at this
  refine (Zccf r14 (by omega)).mono ?_
  rintro _ H15 ⟨⟨p,hp,rfl⟩,k15⟩;refine ⟨_,rfl,(Zcko hp).mono ?_⟩;rintro _ _ ⟨⟨p2,rfl⟩,e⟩;rw [e];refine ⟨_,rfl,(Zbyr (o:=16) (o14.keep k15 fun _ _ h=>h) (by omega)).mono ?_⟩
  rintro _ H16 ⟨rfl,k16⟩;refine ⟨rfl,fun H17 hs=>⟨⟨_,_,_,0,rfl,hcan.symm⟩,Zk ?_ hs⟩⟩;exact (kk2.trans k3).trans ((kk14.trans k15).then k16 fun y hy=> .inr (o14.free hy))
theorem Zbdz (hr:Reads H a n (bv s.data)):FnW Tryz.prog Zpa ⟨[.agg ⟨sgL s a n c⟩]⟩ H fun v H'=>v= .bool s.can∧Keep Nil H H':=by refine Zcfn _ _ _ _ _ _ _ _ a n c ?_;unfold Zblu;refine newB fun q H1 hq b1 k1=>ld9 b1 ((Zbsi 0 0 (hr.keep k1 fun _ _ h=>h) (.inr trivial)).mono ?_);rintro _ H2 ⟨⟨_,_,_,e,rfl,he⟩,k2⟩;exact ⟨_,_,_,_,rfl,fun H3 hs=>⟨by rw [he],Zk (k1.trans k2) hs⟩⟩
end
end Go.Proofs.YtaljkjokbdpdoaaGreat
end
section
set_option maxRecDepth 100000
namespace Go.Conn
def Cn.ob (c:Cn):Ob:=⟨c.una,c.data,c.sent,c.win,c.big,c.tries⟩
end Go.Conn
namespace Go.Proofs.YtaljkjokbdpdoaaGreat
open Go.Sh Go.Pc Go.Conn
structure JP where
  jb:Nat
  rb:Nat
  hb:Nat
  ra:Option Addr
  rc:Nat
  first:Nat
structure CP where
  ob:Nat
  eb:Nat
  da:Option Addr
  dc:Nat
  onow:Int
  jp:Option JP
def CP.ip (p:CP):Option Addr:=p.jp.map fun q=>⟨q.jb,0,none⟩
def jnF:Option JP->Nat->Prop
  | none,_=>False
  | some q,x=>JFt q.jb q.rb q.hb q.ra x
def CP.F (p:CP) (cb:Nat):Nat->Prop:=fun x=>x=cb∨OFt p.ob p.eb p.da x∨jnF p.jp x
def Zfc (H:Heap):Option JP->Option Jn->Prop
  | none,none=>True
  | some q,some j=>JRep H q.jb q.rb q.hb q.ra q.rc q.first j
  | _,_=>False
def cnL (c:Cn) (ob:Nat) (ip:Option Addr) (now due:Int) (ga:Option Addr) (gn gc:Nat):List Value:=
  [.int .i64 c.st,.int .i64 c.src,.int .i64 c.dst,.int .u32 c.first,.pointer (some ⟨ob,0,none⟩),.pointer ip,.bool c.shut,.bool c.bye,.bool c.sure,.bool c.got,.int .i64 now,.int .i64 due,.slice ga gn gc]
structure CRep (H:Heap) (cb:Nat) (p:CP) (c:Cn) (now due:Int) (ga:Option Addr) (gn gc:Nat):Prop where
  ok:c.Ok
  out:ORep H p.ob p.eb p.da p.dc p.onow c.ob
  le:p.onow <= now
  inn:Zfc H p.jp c.inn
  blk:Blk H cb Zem ⟨cnL c p.ob p.ip now due ga gn gc⟩
  apart: ∀y,jnF p.jp y->¬OFt p.ob p.eb p.da y
def sgsL:List (Sg×Option Addr×Nat)->List Value
  | []=>[]
  | x::xs=>sgL x.1 x.2.1 x.1.data.length x.2.2++sgsL xs
structure SegD (H0 H:Heap) (F:Nat->Prop) (x:Sg×Option Addr×Nat):Prop where
  seq:x.1.seq<4294967296
  ack:x.1.ack<4294967296
  rd:Reads H x.2.1 x.1.data.length (bv x.1.data)
  new: ∀a,x.2.1=some a->H0 a.block=none∧¬F a.block∧∃c,Blk H a.block Zh c
structure Outs (H0 H:Heap) (F:Nat->Prop) (ga:Option Addr) (gc:Nat) (xs:List (Sg×Option Addr×Nat)):Prop where
  own:Sh.Own H0 H ga xs.length gc 9 Zm (sgsL xs)
  far: ∀y,ga=some ⟨y,0,none⟩->¬F y
  all: ∀x∈xs,SegD H0 H F x
  non:xs= []->ga=none∧gc=0
theorem Zkl: ∀xs,(sgsL xs).length=xs.length*9
  | []=>rfl
  | x::xs=>by show (sgL x.1 x.2.1 x.1.data.length x.2.2++sgsL xs).length=_;rw [List.length_append,Zkl xs];show 9+xs.length*9=(xs.length+1)*9;omega
theorem Zrv: ∀xs ys,sgsL (xs++ys)=sgsL xs++sgsL ys
  | [],_=>rfl
  | x::xs,ys=>by show sgL x.1 x.2.1 x.1.data.length x.2.2++sgsL (xs++ys)=(sgL x.1 x.2.1 x.1.data.length x.2.2++sgsL xs)++sgsL ys;rw [Zrv xs ys,List.append_assoc]
theorem Outs.nil {H0 H:Heap} {F:Nat->Prop}:Outs H0 H F none 0 []:=⟨Sh.Own.nil,fun y h=>(by cases h),fun x h=>(by cases h),fun _=>⟨rfl,rfl⟩⟩
theorem SegD.step {H0 H H':Heap} {F F' S:Nat->Prop} {x:Sg×Option Addr×Nat} (h:SegD H0 H F x) (k:Keep S H H') (hs: ∀y,S y->F y∨H y=none) (hf: ∀y,F' y->F y∨H y=none):SegD H0 H' F' x:=by
  have key: ∀a,x.2.1=some a->¬S a.block:=fun a ha hS=>by obtain ⟨_,h2,c,h3⟩:=h.new a ha;rcases hs _ hS with e | e;exact h2 e;exact h3.some e
  refine ⟨h.seq,h.ack,h.rd.keep k key,fun a ha=>?_⟩;obtain ⟨h1,h2,c,h3⟩:=h.new a ha;refine ⟨h1,fun hF=>?_,c,k.blk h3 (key a ha)⟩;rcases hf _ hF with e | e;exact h2 e;exact h3.some e
theorem Outs.step {H0 H H':Heap} {F F' S:Nat->Prop} {ga:Option Addr} {gc:Nat} {xs:List (Sg×Option Addr×Nat)} (h:Outs H0 H F ga gc xs) (k:Keep S H H') (hs: ∀y,S y->F y∨H y=none) (hf: ∀y,F' y->F y∨H y=none):Outs H0 H' F' ga gc xs:=by
  have live: ∀y,ga=some ⟨y,0,none⟩->H y≠none:=fun y hy=>by obtain ⟨c,q⟩:=h.own.live hy;exact q.some
  refine ⟨h.own.keep k fun y hy hS=>?_,fun y hy hF=>?_,fun x hx=>(h.all x hx).step k hs hf,h.non⟩;rcases hs _ hS with e | e;exact h.far y hy e;exact live y hy e;rcases hf _ hF with e | e;exact h.far y hy e;exact live y hy e
theorem Zbaf {H1 H H2:Heap} {a:Option Addr} {k:Nat} {xs:List Value} (h:Reads H a k xs) (hs:Shut H1 H H2):Reads H2 a k xs:=by
  cases a with
  | none=>exact h
  | some a=>
    refine ⟨h.1,fun h0=>?_⟩;obtain ⟨hsp,c,T,fr,hb,hc⟩:=h.2 h0;refine ⟨hsp,c,T,fr,?_,hc⟩;rcases hs a.block with e | ⟨_,e,_⟩;rw [e];exact hb;rw [hb] at e;cases e
theorem Outs.shut {H0 H1 H H2:Heap} {F:Nat->Prop} {ga:Option Addr} {gc:Nat} {xs:List (Sg×Option Addr×Nat)} (h:Outs H0 H F ga gc xs) (hs:Shut H1 H H2):Outs H0 H2 F ga gc xs:=
  ⟨Zbn h.own hs,h.far,fun x hx=>by
    have h:=h.all x hx;refine ⟨h.seq,h.ack,Zbaf h.rd hs,fun a ha=>?_⟩;obtain ⟨h1,h2,c,h3⟩:=h.new a ha;exact ⟨h1,h2,c,Zcb h3 hs⟩,h.non⟩
section
variable {H H':Heap} {cb gn gc:Nat} {p:CP} {c:Cn} {now due:Int} {ga:Option Addr}
theorem Zzj {q:Option JP} {j:Option Jn} (h:Zfc H q j) {y:Nat} (hy:jnF q y):H y≠none:=by
  cases q with
  | none=>exact hy.elim
  | some q=>
    cases j with
    | none=>exact h.elim
    | some j=>exact JRep.live h hy
theorem Zqs {S:Nat->Prop} {q:Option JP} {j:Option Jn} (h:Zfc H q j) (k:Keep S H H') (hs: ∀y,jnF q y->¬S y):Zfc H' q j:=by
  cases q with
  | none=>cases j<;>exact h
  | some q=>
    cases j with
    | none=>exact h.elim
    | some j=>exact JRep.keep h k hs
theorem Zbvu {H0:Heap} {q:Option JP} {j:Option Jn} (h:Zfc H q j) (hs:Shut H0 H H'):Zfc H' q j:=by
  cases q with
  | none=>cases j<;>exact h
  | some q=>
    cases j with
    | none=>exact h.elim
    | some j=>exact JRep.shut h hs
theorem Zzk {q:Option JP} {j:Option Jn} (h:Zfc H q j) {cs:Array Value} (hb:Blk H cb Zem cs): ¬jnF q cb:=by
  intro hy;cases q with
  | none=>exact hy.elim
  | some q=>
    cases j with
    | none=>exact h.elim
    | some j=>
      have h:JRep H q.jb q.rb q.hb q.ra q.rc q.first j:=h;rcases hy with e | e | e | e;obtain ⟨_,q⟩:=h.blk;rw [e] at hb;exact absurd (Zcl q hb) (by decide)
      obtain ⟨_,q,_⟩:=h.ring;rw [e] at hb;exact absurd (Zcl q hb) (by decide)
      obtain ⟨_,q,_⟩:=h.has;rw [e] at hb;exact absurd (Zcl q hb) (by decide)
      obtain ⟨_,q⟩:=h.rdy.live e;exact absurd (Zcl q hb) (by decide)
theorem Zrb {b eb dc:Nat} {da:Option Addr} {onow:Int} {o:Ob} (h:ORep H b eb da dc onow o) {cs:Array Value} (hb:Blk H cb Zem cs): ¬OFt b eb da cb:=by
  rintro (e | e | e);obtain ⟨_,_,_,_,q⟩:=h.blk;rw [e] at hb;exact absurd (Zcl q hb) (by decide)
  obtain ⟨_,q⟩:=Zoi h.est;rw [e] at hb;exact absurd (Zcl q hb) (by decide)
  obtain ⟨_,q⟩:=h.data.live e;exact absurd (Zcl q hb) (by decide)
theorem CRep.live (h:CRep H cb p c now due ga gn gc) {y:Nat} (hy:p.F cb y):H y≠none:=by rcases hy with rfl | hy | hy;exact h.blk.some;exact h.out.live hy;exact Zzj h.inn hy
theorem CRep.keep {S:Nat->Prop} (h:CRep H cb p c now due ga gn gc) (k:Keep S H H') (hs: ∀y,p.F cb y->¬S y):CRep H' cb p c now due ga gn gc:=
  ⟨h.ok,h.out.keep k fun y hy=>hs y (.inr (.inl hy)),h.le,Zqs h.inn k fun y hy=>hs y (.inr (.inr hy)),k.blk h.blk (hs cb (.inl rfl)),h.apart⟩
theorem CRep.shut {H0:Heap} (h:CRep H cb p c now due ga gn gc) (hs:Shut H0 H H'):CRep H' cb p c now due ga gn gc:=
  ⟨h.ok,h.out.shut hs,h.le,Zbvu h.inn hs,Zcb h.blk hs,h.apart⟩
theorem CRep.put {c':Cn} {now' due':Int} {ga':Option Addr} {gn' gc':Nat} (h:CRep H cb p c now due ga gn gc) (k:Keep (fun x=>x=cb) H H') (hb:Blk H' cb Zem ⟨cnL c' p.ob p.ip now' due' ga' gn' gc'⟩) (ok:c'.Ok) (ho:c'.ob=c.ob) (hi:c'.inn=c.inn) (hn:p.onow <= now'):CRep H' cb p c' now' due' ga' gn' gc':=
  ⟨ok,by rw [ho];exact h.out.keep k fun y hy e=>Zrb h.out h.blk (e▸hy),hn,by rw [hi];exact Zqs h.inn k fun y hy e=>Zzk h.inn h.blk (e▸hy),hb,h.apart⟩
theorem CRep.outT {da':Option Addr} {dc':Nat} {onow':Int} {c':Cn} (h:CRep H cb p c now due ga gn gc) (ho:ORep H' p.ob p.eb da' dc' onow' c'.ob) (s:Zv H H' p.ob p.eb p.da da') (ok:c'.Ok) (hn:onow' <= now)
    (hc: ∀ip,cnL c' p.ob ip now due ga gn gc=cnL c p.ob ip now due ga gn gc) (hi:c'.inn=c.inn):CRep H' cb { p with da:=da',dc:=dc',onow:=onow' } c' now due ga gn gc:=by
  refine ⟨ok,ho,hn,?_,?_,fun y hy hF=>?_⟩;rw [hi];exact Zqs h.inn s.1 fun y hy=>h.apart y hy;have:=s.1.blk h.blk (Zrb h.out h.blk);show Blk H' cb Zem ⟨cnL c' p.ob p.ip now due ga gn gc⟩;rw [hc];exact this;rcases hF with e | e | e;exact h.apart y hy (.inl e);exact h.apart y hy (.inr (.inl e));rcases s.2 y e with e | e;exact h.apart y hy (.inr (.inr e));exact Zzj h.inn hy e
theorem CRep.jnT {q:JP} {j j':Jn} {ra':Option Addr} {rc' first':Nat} {c':Cn} (h:CRep H cb p c now due ga gn gc) (hq:p.jp=some q) (hj:JRep H' q.jb q.rb q.hb ra' rc' first' j') (s:Zej H H' q.jb q.rb q.hb q.ra ra') (ok:c'.Ok)
    (hc: ∀ip,cnL c' p.ob ip now due ga gn gc=cnL c p.ob ip now due ga gn gc) (ho:c'.ob=c.ob) (hi:c'.inn=some j'):CRep H' cb { p with jp:=some ⟨q.jb,q.rb,q.hb,ra',rc',first'⟩ } c' now due ga gn gc:=by
  have hF: ∀y,JFt q.jb q.rb q.hb q.ra y->jnF p.jp y:=fun y hy=>by rw [hq];exact hy
  refine ⟨ok,?_,h.le,?_,?_,fun y hy hO=>?_⟩;rw [ho];exact h.out.keep s.1 fun y hy hJ=>h.apart y (hF y hJ) hy;rw [hi];exact hj
  . have:=s.1.blk h.blk fun hJ=>Zzk h.inn h.blk (hF _ hJ);show Blk H' cb Zem ⟨cnL c' p.ob (some ⟨q.jb,0,none⟩) now due ga gn gc⟩;rw [hc];have e:p.ip=some ⟨q.jb,0,none⟩:=by unfold CP.ip;rw [hq];rfl
    rw [e] at this;exact this
  have hy:JFt q.jb q.rb q.hb ra' y:=hy;have hO:OFt p.ob p.eb p.da y:=hO;rcases hy with e | e | e | e;exact h.apart y (hF y (.inl e)) hO;exact h.apart y (hF y (.inr (.inl e))) hO;exact h.apart y (hF y (.inr (.inr (.inl e)))) hO;rcases s.2 y e with e | e;exact h.apart y (hF y (.inr (.inr (.inr e)))) hO;exact h.out.live hO e
end
structure CX (H0:Heap) (F0:Nat->Prop) (H:Heap) (cb:Nat) (p:CP) (ga:Option Addr) (gc:Nat) (c:Cn) (now due:Int) (xs:List (Sg×Option Addr×Nat)):Prop where
  rep:CRep H cb p c now due ga xs.length gc
  keep:Keep F0 H0 H
  sub: ∀y,p.F cb y->F0 y∨H0 y=none
  outs:Outs H0 H (p.F cb) ga gc xs
def CIn (H0:Heap) (F0:Nat->Prop) (H:Heap) (cb:Nat) (c:Cn) (now due:Int) (l:List Sg):Prop:=∃p ga gc xs,CX H0 F0 H cb p ga gc c now due xs∧xs.map (·.1)=l
section
variable {H0 H H':Heap} {F0:Nat->Prop} {cb gc:Nat} {p:CP} {c:Cn} {now due:Int} {ga:Option Addr} {xs:List (Sg×Option Addr×Nat)} {l:List Sg}
theorem Zbay {H1 H2:Heap} {S:Nat->Prop} (k1:Keep S H0 H1) (k:Keep S H0 H) (hs:Shut H1 H H2):Keep S H0 H2:=
  Zbl k fun b=>(hs b).imp id fun ⟨a,r⟩=>⟨k1.free a,r⟩
theorem CX.shut {H1:Heap} {S:Nat->Prop} (h:CX H0 F0 H cb p ga gc c now due xs) (k1:Keep F0 H0 H1) (hs:Shut H1 H H'):CX H0 F0 H' cb p ga gc c now due xs:=
  ⟨h.rep.shut hs,Zbay k1 h.keep hs,h.sub,h.outs.shut hs⟩
theorem CIn.shut {H1:Heap} (h:CIn H0 F0 H cb c now due l) (k1:Keep F0 H0 H1) (hs:Shut H1 H H'):CIn H0 F0 H' cb c now due l:=by obtain ⟨p,ga,gc,xs,h,e⟩:=h;exact ⟨p,ga,gc,xs,h.shut (S:=F0) k1 hs,e⟩
theorem CIn.keep (h:CIn H0 F0 H cb c now due l):Keep F0 H0 H:=by obtain ⟨p,ga,gc,xs,h,e⟩:=h;exact h.keep
theorem CX.nil (h:CX H0 F0 H cb p ga gc c now due xs) (k:Keep Nil H H'):CX H0 F0 H' cb p ga gc c now due xs:=
  ⟨h.rep.keep k fun _ _ h=>h,h.keep.trans (k.mono fun _ h=>h.elim),h.sub,h.outs.step k (fun _ h=>h.elim) fun y h=> .inl h⟩
theorem CIn.nil (h:CIn H0 F0 H cb c now due l) (k:Keep Nil H H'):CIn H0 F0 H' cb c now due l:=by obtain ⟨p,ga,gc,xs,h,e⟩:=h;exact ⟨p,ga,gc,xs,h.nil k,e⟩
theorem CX.kcb (h:CX H0 F0 H cb p ga gc c now due xs) (k:Keep (fun x=>x=cb) H H'):Keep F0 H0 H':=
  h.keep.then k fun y hy=>h.sub y (.inl hy)
theorem CX.put {c':Cn} {now' due':Int} (h:CX H0 F0 H cb p ga gc c now due xs) (k:Keep (fun x=>x=cb) H H') (hb:Blk H' cb Zem ⟨cnL c' p.ob p.ip now' due' ga xs.length gc⟩) (ok:c'.Ok) (ho:c'.ob=c.ob) (hi:c'.inn=c.inn) (hn:p.onow <= now'):CX H0 F0 H' cb p ga gc c' now' due' xs:=
  ⟨h.rep.put k hb ok ho hi hn,h.kcb k,h.sub,h.outs.step k (fun y hy=> .inl (.inl hy)) fun y h=> .inl h⟩
theorem CX.outT {da':Option Addr} {dc':Nat} {onow':Int} {c':Cn} (h:CX H0 F0 H cb p ga gc c now due xs) (ho:ORep H' p.ob p.eb da' dc' onow' c'.ob) (s:Zv H H' p.ob p.eb p.da da') (ok:c'.Ok) (hn:onow' <= now)
    (hc: ∀ip,cnL c' p.ob ip now due ga xs.length gc=cnL c p.ob ip now due ga xs.length gc) (hi:c'.inn=c.inn):CX H0 F0 H' cb { p with da:=da',dc:=dc',onow:=onow' } ga gc c' now due xs:=by
  have hF: ∀y,CP.F { p with da:=da',dc:=dc',onow:=onow' } cb y->p.F cb y∨H y=none:=fun y hy=>by rcases hy with e | (e | e | e) | e;exact .inl (.inl e);exact .inl (.inr (.inl (.inl e)));exact .inl (.inr (.inl (.inr (.inl e))));exact (s.2 y e).imp (fun e=> .inr (.inl (.inr (.inr e)))) id;exact .inl (.inr (.inr e))
  refine ⟨h.rep.outT ho s ok hn hc hi,h.keep.then s.1 fun y hy=>h.sub y (.inr (.inl hy)),fun y hy=>?_,h.outs.step s.1 (fun y hy=> .inl (.inr (.inl hy))) hF⟩;rcases hF y hy with e | e;exact h.sub y e;exact .inr (h.keep.free e)
theorem CX.jnT {q:JP} {j j':Jn} {ra':Option Addr} {rc' first':Nat} {c':Cn} (h:CX H0 F0 H cb p ga gc c now due xs) (hq:p.jp=some q) (hj:JRep H' q.jb q.rb q.hb ra' rc' first' j') (s:Zej H H' q.jb q.rb q.hb q.ra ra') (ok:c'.Ok)
    (hc: ∀ip,cnL c' p.ob ip now due ga xs.length gc=cnL c p.ob ip now due ga xs.length gc) (ho:c'.ob=c.ob) (hi:c'.inn=some j'):CX H0 F0 H' cb { p with jp:=some ⟨q.jb,q.rb,q.hb,ra',rc',first'⟩ } ga gc c' now due xs:=by
  have hJ: ∀y,JFt q.jb q.rb q.hb q.ra y->p.F cb y:=fun y hy=> .inr (.inr (by rw [hq];exact hy))
  have hF: ∀y,CP.F { p with jp:=some ⟨q.jb,q.rb,q.hb,ra',rc',first'⟩ } cb y->p.F cb y∨H y=none:=fun y hy=>by rcases hy with e | e | (e | e | e | e);exact .inl (.inl e);exact .inl (.inr (.inl e));exact .inl (hJ y (.inl e));exact .inl (hJ y (.inr (.inl e)));exact .inl (hJ y (.inr (.inr (.inl e))));exact (s.2 y e).imp (fun e=>hJ y (.inr (.inr (.inr e)))) id
  refine ⟨h.rep.jnT (j:=j') hq hj s ok hc ho hi,h.keep.then s.1 fun y hy=>h.sub y (hJ y hy),fun y hy=>?_,h.outs.step s.1 (fun y hy=> .inl (hJ y hy)) hF⟩;rcases hF y hy with e | e;exact h.sub y e;exact .inr (h.keep.free e)
end
end Go.Proofs.YtaljkjokbdpdoaaGreat
end
section
set_option maxRecDepth 100000
namespace Go.Proofs.YtaljkjokbdpdoaaGreat
open Go.Sh Go.Pc Go.Conn
section
variable {H H':Heap} {cb gn gc:Nat} {p:CP} {c:Cn} {now due:Int} {ga:Option Addr}
theorem Zvn (h:CRep H cb p c now due ga gn gc):FnW Tryz.prog Zlp ⟨[.pointer (some ⟨cb,0,none⟩)]⟩ H fun v H'=>v= .bool true∧H'=H:=by refine Zcem cb ?_;unfold Zbkx;exact ⟨_,cellL h.blk 4 rfl,fun H2 hs=>⟨rfl,(Zf hs).symm⟩⟩
theorem Zbul (h:CRep H cb p c now due ga gn gc) {t:Int} (ht:now <= t):FnW Tryz.prog Zwv ⟨[.pointer (some ⟨cb,0,none⟩),.int .i64 t]⟩ H fun v H'=>v= .int .i64 0∧H'=H:=by refine Zcgs cb t ?_;unfold Zbmr;refine (Zvn h).mono ?_;rintro _ _ ⟨rfl,e⟩;rw [e];exact ⟨true,rfl,ifF rfl ⟨_,cellL h.blk 10 rfl,ifF (decide_eq_false (by omega)) fun H2 hs=>⟨rfl,(Zf hs).symm⟩⟩⟩
theorem Zbfp:FnW Tryz.prog Zez ⟨[.pointer none]⟩ H fun v H'=>v= .bool false∧H'=H:=by refine Zcfj ?_;unfold Zbbt;exact fun H2 hs=>⟨rfl,(Zf hs).symm⟩
theorem Zbfq {q:Option JP} {j:Option Jn} (h:Zfc H q j):FnW Tryz.prog Zib ⟨[.pointer (q.map fun q=>⟨q.jb,0,none⟩)]⟩ H fun v H'=>v= .int .u32 ((j.map Jn.next).getD 0:Nat)∧H'=H:=by
  cases q with
  | none=>
    cases j with
    | some j=>exact h.elim
    | none=>
      refine Zchn ?_;unfold Zbbw;refine Zbfp.mono ?_;rintro _ _ ⟨rfl,e⟩;rw [e];exact ⟨false,rfl,ifT rfl fun H2 hs=>⟨rfl,(Zf hs).symm⟩⟩
  | some q=>
    cases j with
    | none=>exact h.elim
    | some j=>exact Zbvw h
theorem Zbvs {q:Option JP} {j:Option Jn} (h:Zfc H q j):FnW Tryz.prog Zjq ⟨[.pointer (q.map fun q=>⟨q.jb,0,none⟩)]⟩ H fun v H'=>v= .int .i64 ((j.map fun j=>j.rdy.length).getD 0:Nat)∧H'=H:=by
  cases q with
  | none=>
    cases j with
    | some j=>exact h.elim
    | none=>
      refine Zcht ?_;unfold Zbby;refine Zbfp.mono ?_;rintro _ _ ⟨rfl,e⟩;rw [e];exact ⟨false,rfl,ifT rfl fun H2 hs=>⟨rfl,(Zf hs).symm⟩⟩
  | some q=>
    cases j with
    | none=>exact h.elim
    | some j=>exact Zbvx h
theorem Zbvt {q:Option JP} {j:Option Jn} (h:Zfc H q j):(j.map Jn.next).getD 0<4294967296:=by
  cases q with
  | none=>
    cases j with
    | some j=>exact h.elim
    | none=>decide
  | some q=>
    cases j with
    | none=>exact h.elim
    | some j=>exact (JRep.ok h).next
theorem Zbjh (c:Cn):c.wants=if c.got then addN ((c.inn.map Jn.next).getD 0) 1 else (c.inn.map Jn.next).getD 0:=by
  unfold Cn.wants;cases c.inn with
  | some j=>rfl
  | none=>
    show (if c.got=true then 1 else 0)=if c.got=true then addN 0 1 else 0
    rw [Zde]
theorem Zna {q:Option JP} (h:Zfc H q c.inn):c.wants<4294967296:=by rw [Zbjh];split;exact Zbb _ _;exact Zbvt h
theorem Zvr (h:CRep H cb p c now due ga gn gc):FnW Tryz.prog Zig ⟨[.pointer (some ⟨cb,0,none⟩)]⟩ H fun v H'=>v= .int .u32 c.wants∧H'=H:=by refine Zclc cb ?_;unfold Zbsc;refine ⟨_,cellL h.blk 5 rfl,(Zbfq h.inn).mono ?_⟩;rintro _ _ ⟨rfl,e⟩;rw [e];refine ⟨_,rfl,_,cellL h.blk 9 rfl,?_⟩;rw [Zbjh];refine IfB.intro (fun hg H2 hs=>⟨?_,(Zf hs).symm⟩) fun hg H2 hs=>⟨?_,(Zf hs).symm⟩;rw [wrap_u32,if_pos hg];rw [hg,if_neg (by decide)]
theorem Zbwk (h:c.Ok):c.last<4294967296:=by unfold Cn.last Cn.onext;split<;>exact Zbb _ _
theorem Zbeg (h:CRep H cb p c now due ga gn gc):FnW Tryz.prog Zpi ⟨[.pointer (some ⟨cb,0,none⟩)]⟩ H fun v H'=>v= .int .u32 c.last∧H'=H:=by
  refine Zcge cb ?_;unfold Zbmd;refine ⟨_,cellL h.blk 4 rfl,(Zra h.out).mono ?_⟩;rintro _ _ ⟨rfl,e⟩;rw [e];refine ⟨_,rfl,_,cellL h.blk 7 rfl,IfB.intro (fun hg H2 hs=>⟨?_,(Zf hs).symm⟩) fun hg H2 hs=>⟨?_,(Zf hs).symm⟩⟩;rw [wrap_u32];unfold Cn.last;rw [if_pos hg];rfl
  . unfold Cn.last;rw [hg,if_neg (by decide)];rfl
theorem Zbun (h:CRep H cb p c now due ga gn gc):FnW Tryz.prog Zxb ⟨[.pointer (some ⟨cb,0,none⟩)]⟩ H fun v H'=>v= .int .i64 c.room∧H'=H:=by
  refine Zcgy cb ?_;unfold Zbmx;have hi:=h.inn;refine ⟨_,cellL h.blk 5 rfl,?_⟩;cases hp:p.jp with
  | none=>
    rw [hp] at hi;cases hj:c.inn with
    | some j=>rw [hj] at hi;exact hi.elim
    | none=>
      refine ifT (by unfold CP.ip;rw [hp];rfl) fun H2 hs=>⟨?_,(Zf hs).symm⟩
      unfold Cn.room;rw [hj];rfl
  | some q=>
    rw [hp] at hi;cases hj:c.inn with
    | none=>rw [hj] at hi;exact hi.elim
    | some j=>
      rw [hj] at hi;refine ifF (by unfold CP.ip;rw [hp];rfl) ⟨_,cellL h.blk 5 rfl,?_⟩
      have e:p.ip=some ⟨q.jb,0,none⟩:=by unfold CP.ip;rw [hp];rfl
      rw [e];refine (Zzl (show JRep H q.jb q.rb q.hb q.ra q.rc q.first j from hi)).mono ?_
      rintro _ _ ⟨rfl,e⟩;rw [e];refine ⟨_,rfl,fun H2 hs=>⟨?_,(Zf hs).symm⟩⟩;unfold Cn.room;rw [hj]
theorem Zcai: ∃it,Tryz.prog.info? Zm=some it∧it.size=9∧it.bytes=80:=by
  have h:(Tryz.prog.info? Zm).map (fun i=>(i.size,i.bytes))=some (9,80):=by kernel_rfl
  cases hi:Tryz.prog.info? Zm with
  | none=>rw [hi] at h;cases h
  | some it=>
    rw [hi] at h;simp only [Option.map_some,Option.some.injEq,Prod.mk.injEq] at h;exact ⟨it,rfl,h.1,h.2⟩
theorem Zcay (s:Sg) (a:Option Addr) (n c:Nat): ∀v∈sgL s a n c,Zch v=true:=by intro v hv;simp only [List.mem_cons,List.not_mem_nil,or_false] at hv;rcases hv with rfl | rfl | rfl | rfl | rfl | rfl | rfl | rfl | rfl<;>rfl
end
section
variable {H0 H H':Heap} {F0:Nat->Prop} {cb gc:Nat} {p:CP} {c:Cn} {now due:Int} {ga:Option Addr} {xs:List (Sg×Option Addr×Nat)} {l:List Sg}
theorem Zbgy {F:Nat->Prop} {q:Nat} {x:Sg×Option Addr×Nat} {K:Value->Heap->Prop} {S:Nat->Prop} (ho:Outs H0 H F ga gc xs) (k0:Keep S H0 H) (hq:Blk H q Zm ⟨sgL x.1 x.2.1 x.1.data.length x.2.2⟩) (hx:SegD H0 H F x) (hF: ∀y,F y->H y≠none) (hl:xs.length <= 10000)
    (h: ∀gb gc' H',Outs H0 H' F (some ⟨gb,0,none⟩) gc' (xs++[x])->Keep (fun y=>ga=some ⟨y,0,none⟩) H H'->K (.slice (some ⟨gb,0,none⟩) (xs++[x]).length gc') H'):
    AppW Tryz.prog #[Zfy,Zfy] Zfy [.slice ga xs.length gc,.slice (some ⟨q,0,none⟩) 1 1] H K:=by
  obtain ⟨it,h1,h2,h3⟩:=Zcai;refine Zgj (e:=Zm) (xe:=Zm) (z:=[.int .i64 0,.int .i64 0,.int .u32 0,.int .u32 0,.int .i64 0,.int .i64 0,.int .i64 0,.int .i64 0,.slice none 0 0]) (by kernel_rfl) (by kernel_rfl) h1 h2 h3 (by decide) (by kernel_rfl) rfl ho.own k0 (new:=sgL x.1 x.2.1 x.1.data.length x.2.2) (Reads.blk hq rfl fun t ht=>by rw [Nat.zero_add,List.getElem?_toArray]) (Zcay _ _ _ _) (by omega) fun a' cap' H' _ q1 q2 q3 q4=>?_
  have e:sgsL xs++sgL x.1 x.2.1 x.1.data.length x.2.2=sgsL (xs++[x]):=by rw [Zrv];simp [sgsL]
  rw [e] at q1;have e2:xs.length+1=(xs++[x]).length:=by simp
  rw [e2] at q1 ⊢;rcases q1.2.2 with ⟨_,e0,_⟩ | ⟨m,rest,rfl,_⟩;simp at e0
  . have dead: ∀y,ga=some ⟨y,0,none⟩->∃c,Blk H y Zm c:=fun y hy=>ho.own.live hy;refine h m cap' H' ⟨q1,fun y hy hFy=>?_,fun z hz=>?_,fun e=>by simp at e⟩ q3
    rcases q2 y hy with e | e;exact ho.far y e hFy;exact hF y hFy e
    . have hz:SegD H0 H F z:=by rcases List.mem_append.1 hz with hz | hz;exact ho.all z hz;rw [List.mem_singleton.1 hz];exact hx
      have key: ∀a,z.2.1=some a->¬ga=some ⟨a.block,0,none⟩:=fun a ha hg=>by obtain ⟨_,_,c,hc⟩:=hz.new a ha;obtain ⟨c',hc'⟩:=dead _ hg;exact absurd (Zcl hc hc') (by decide)
      refine ⟨hz.seq,hz.ack,hz.rd.keep q3 key,fun a ha=>?_⟩;obtain ⟨r1,r2,c,r3⟩:=hz.new a ha;exact ⟨r1,r2,c,q3.blk r3 (key a ha)⟩
theorem Zvq (h:CX H0 F0 H cb p ga gc c now due xs) {at_ n cap:Nat} {fl:Int} {a:Option Addr} {d:List Int} (hat:at_<4294967296) (hd:d.length=n) (hx:SegD H0 H (p.F cb) (c.mk' at_ fl d,a,cap)) (hl:xs.length <= 10000):
    FnW Tryz.prog Zif ⟨[.pointer (some ⟨cb,0,none⟩),.int .u32 at_,.int .i64 fl,.slice a n cap]⟩ H fun v H'=>∃gb gc',v= .pointer (some ⟨gb,xs.length*9,none⟩)∧CX H0 F0 H' cb p (some ⟨gb,0,none⟩) gc' c now due (xs++[(c.mk' at_ fl d,a,cap)]):=by
  subst hd;have hr:=h.rep;obtain ⟨kp1,kp2⟩:=Zcq hr.blk.some;refine Zclb cb at_ fl a d.length cap ?_;unfold Zbsa;refine ⟨[cb],kp1,List.mem_singleton.2 rfl,_,_,_,cellL hr.blk 12 rfl,List.mem_singleton.2 rfl,_,cellL hr.blk 1 rfl,List.mem_singleton.2 rfl,_,cellL hr.blk 2 rfl,(Zvr hr).mono ?_⟩;rintro _ _ ⟨rfl,e⟩;rw [e];refine ⟨_,rfl,kp2,(Zbun hr).mono ?_⟩;rintro _ _ ⟨rfl,e⟩;rw [e];refine ⟨_,rfl,kp2,newB fun q H1 hq b1 k1=>?_⟩;have h1:=h.nil k1;have hx1:SegD H0 H1 (p.F cb) (c.mk' at_ fl d,a,cap):=hx.step k1 (fun _ h=>h.elim) fun y h=> .inl h;refine Zbgy (x:=(c.mk' at_ fl d,a,cap)) h1.outs h1.keep b1 hx1 (fun y hy=>h1.rep.live hy) hl fun gb gc' H2 o2 k2=>?_;have hcg: ¬ga=some ⟨cb,0,none⟩:=fun e=>h.outs.far cb e (.inl rfl);have hr2:CRep H2 cb p c now due ga xs.length gc:=h1.rep.keep k2 fun y hy e=>h1.outs.far y e hy;refine ⟨_,_,_,rfl,fun y hy=>?_,stL hr2.blk (by simp [cnL]) rfl fun H3 b3 k3=>⟨_,_,_,cellL b3 12 rfl,_,_,_,cellL b3 12 rfl,?_⟩⟩
  rw [List.mem_singleton.1 hy];have hbs: ∃ob,H cb=some ob:=⟨_,hr.blk⟩;exact ⟨hbs,(k2.same cb hcg h1.rep.blk.some).trans (k1.same cb id hr.blk.some)⟩;refine NilP.intro _ rfl (InB.intro xs.length ?_ (by simp) ?_)
  . rw [show (((xs++[(c.mk' at_ fl d,a,cap)]).length:Nat):Int) - 1=(xs.length:Nat) by rw [List.length_append,List.length_singleton];omega]
    exact Zi (by omega) (by omega)
  rw [Zw];intro H4 hs;refine ⟨gb,gc',by first | rfl | simp,CX.shut (S:=F0) ?_ h.keep hs⟩
  refine ⟨hr2.put k3 b3 hr.ok rfl rfl hr.le,?_,h.sub,o2.step k3 (fun y hy=> .inl (.inl hy)) fun y h=> .inl h⟩;have k02:Keep F0 H0 H2:=h1.keep.then k2 fun y hy=> .inr (h1.outs.own.free hy);exact k02.then k3 fun y hy=>h.sub y (.inl hy)
theorem SegD.bare {F:Nat->Prop} {s:Sg} (h1:s.seq<4294967296) (h2:s.ack<4294967296) (h3:s.data= []):SegD H0 H F (s,none,0):=
  ⟨h1,h2,by show Reads H none s.data.length (bv s.data);rw [h3];exact Reads.nil,fun a h=>by cases h⟩
theorem Zbek (h:CIn H0 F0 H cb c now due l) {at_:Nat} {fl:Int} (hat:at_<4294967296) (hl:l.length <= 10000):
    FnW Tryz.prog Zif ⟨[.pointer (some ⟨cb,0,none⟩),.int .u32 at_,.int .i64 fl,.slice none 0 0]⟩ H fun v H'=>(∃a,v= .pointer a)∧CIn H0 F0 H' cb c now due (l++[c.mk' at_ fl []]):=by
  obtain ⟨p,ga,gc,xs,h,rfl⟩:=h;refine (Zvq h (d:=[]) hat rfl (SegD.bare hat (Zna h.rep.inn) rfl) (by simpa using hl)).mono ?_
  rintro _ H' ⟨gb,gc',rfl,h'⟩;exact ⟨⟨_,rfl⟩,p,_,gc',_,h',by simp⟩
theorem Zvp (h:CIn H0 F0 H cb c now due l) (hl:l.length <= 10000):FnW Tryz.prog Zpb ⟨[.pointer (some ⟨cb,0,none⟩)]⟩ H fun v H'=>v= .tuple ⟨[]⟩∧CIn H0 F0 H' cb c now due (l++[c.nod]):=by refine Zcfo cb ?_;unfold Zblv;have h0:=h;obtain ⟨p,ga,gc,xs,hx,e⟩:=h;refine (Zbeg hx.rep).mono ?_;rintro _ _ ⟨rfl,e⟩;rw [e];refine ⟨_,rfl,(Zbek h0 (Zbwk hx.rep.ok) hl).mono ?_⟩;rintro _ H2 ⟨⟨a,rfl⟩,h2⟩;exact ⟨_,rfl,fun H3 hs=>⟨rfl,h2.shut h0.keep hs⟩⟩
theorem Zbui (h:CIn H0 F0 H cb c now due l) (hl:l.length <= 10000):FnW Tryz.prog Zxa ⟨[.pointer (some ⟨cb,0,none⟩)]⟩ H fun v H'=>v= .tuple ⟨[]⟩∧CIn H0 F0 H' cb c now due (l++[c.fin]):=by
  refine Zcgx cb ?_;unfold Zbmw;have h0:=h;obtain ⟨p,ga,gc,xs,hx,e⟩:=h;refine ⟨_,cellL hx.rep.blk 4 rfl,(Zra hx.rep.out).mono ?_⟩;rintro _ _ ⟨rfl,e⟩;rw [e];refine ⟨_,rfl,(Zbek h0 (show c.onext<4294967296 from Zbb _ _) hl).mono ?_⟩
  rintro _ H2 ⟨⟨a,rfl⟩,h2⟩;exact ⟨_,rfl,fun H3 hs=>⟨rfl,h2.shut h0.keep hs⟩⟩
end
end Go.Proofs.YtaljkjokbdpdoaaGreat
end
section
set_option maxRecDepth 100000
namespace Go.Proofs.YtaljkjokbdpdoaaGreat
open Go.Sh Go.Pc Go.Conn
theorem Zcbb (xs:List (Sg×Option Addr×Nat)) (s:Sg) (a:Option Addr) (n:Nat) (b:Int):(sgsL (xs++[(s,a,n)])).set (xs.length*9+7) (.int .i64 b)=sgsL (xs++[({ s with big:=b },a,n)]):=by
  rw [Zrv,Zrv,List.set_append_right _ _ (by rw [Zkl];omega),Zkl]
  have:xs.length*9+7 - xs.length*9=7:=by omega
  rw [this];rfl
section
variable {H0 H H':Heap} {F0:Nat->Prop} {cb gc:Nat} {p:CP} {c:Cn} {now due:Int} {ga:Option Addr} {xs:List (Sg×Option Addr×Nat)} {l:List Sg}
theorem Zvm (h:CIn H0 F0 H cb c now due l) (hl:l.length <= 10000):FnW Tryz.prog Zly ⟨[.pointer (some ⟨cb,0,none⟩)]⟩ H fun v H'=>v= .tuple ⟨[]⟩∧CIn H0 F0 H' cb c now due (l++[c.hello]):=by
  refine Zcim cb ?_;unfold Zbon;obtain ⟨p,ga,gc,xs,h,rfl⟩:=h;have key: ∀f:Int,f=(if c.st=2 then 18 else if c.st=1 then 2 else 0)->Ztf cb f H fun v H1=>∀H2,Shut H H1 H2->v= .tuple ⟨[]⟩∧CIn H0 F0 H2 cb c now due (xs.map (·.1)++[c.hello]):=by
    intro f hf;unfold Ztf;have hat:=h.rep.ok.first;refine ⟨_,cellL h.rep.blk 3 rfl,(Zvq h (d:=[]) hat rfl (SegD.bare hat (Zna h.rep.inn) rfl) (by simpa using hl)).mono ?_⟩
    rintro _ H1 ⟨gb,gc',rfl,h1⟩;refine ⟨_,rfl,NilP.intro _ rfl ?_⟩;rcases h1.outs.own.2.2 with ⟨e,_⟩ | ⟨m,rest,e,hm,hB,hr⟩;cases e
    . cases e;have hne:gb≠cb:=fun e=>h1.outs.far gb rfl (.inl e);refine stL hB (by rw [List.length_append,Zkl,List.length_append];simp;omega) rfl fun H2 b2 k2=>?_
      rw [List.set_append_left _ _ (by rw [Zkl,List.length_append];simp;omega),Zcbb] at b2
      have hh: { c.mk' c.first f [] with big:=1460 }=c.hello:=by unfold Cn.hello;rw [← hf]
      rw [hh] at b2;have hfar: ∀y,p.F cb y->¬y=gb:=fun y hy e=>h1.outs.far gb rfl (e▸hy);intro H3 hs;refine ⟨rfl,p,some ⟨gb,0,none⟩,gc',xs++[(c.hello,none,0)],CX.shut (S:=F0) ⟨?_,h1.keep.then k2 fun y hy=> .inr (hy▸hm),h.sub,?_,fun y hy=>?_,fun x hx=>?_,fun e=>by simp at e⟩ h.keep hs,by simp⟩
      have hr:=h1.rep.keep k2 hfar;simpa using hr;refine ⟨by rw [Zkl],by have:=h1.outs.own.le;simpa using this,.inr ⟨gb,rest,rfl,hm,b2,by rw [hr];simp⟩⟩
      cases hy;exact fun e=>hfar gb e rfl
      . have hne2: ∀a:Addr,(∃c,Blk H1 a.block Zh c)->¬a.block=gb:=fun a ⟨c,hc⟩ e=>by rw [e] at hc;exact absurd (Zcl hc hB) (by decide)
        rcases List.mem_append.1 hx with hx | hx;have hd:=h1.outs.all x (List.mem_append_left _ hx);refine ⟨hd.seq,hd.ack,hd.rd.keep k2 fun a ha=>hne2 a (hd.new a ha).2.2,fun a ha=>?_⟩;obtain ⟨q1,q2,cc,q3⟩:=hd.new a ha;exact ⟨q1,q2,cc,k2.blk q3 (hne2 a ⟨cc,q3⟩)⟩;rw [List.mem_singleton.1 hx];exact SegD.bare hat (Zna h.rep.inn) rfl
  refine ⟨_,cellL h.rep.blk 0 rfl,IfB.intro (fun e=>?_) fun e=>IfB.intro (fun e2=>?_) fun e2=>key 0 ?_⟩
  . have e:(c.st:Int)=2:=by simpa using e
    unfold Zte;have:Zea .i64 (Zea .i64 0 16) 2=18:=by kernel_rfl
    rw [this];exact key 18 (by rw [if_pos (by omega)])
  . have e: ¬(c.st:Int)=2:=by simpa using e
    have e2:(c.st:Int)=1:=by simpa using e2
    unfold Zte;have:Zea .i64 0 2=2:=by kernel_rfl
    rw [this];exact key 2 (by rw [if_neg (by omega),if_pos (by omega)])
  . have e: ¬(c.st:Int)=2:=by simpa using e
    have e2: ¬(c.st:Int)=1:=by simpa using e2
    rw [if_neg (by omega),if_neg (by omega)]
theorem Zyt {l:List Value} {first g:Nat} (hb:Blk H cb Zem ⟨l⟩) (hl:l.length=13) (h3:l[3]? =some (.int .u32 first)) (hf:first<4294967296) (hg:1 <= g∧g <= 1460):FnW Tryz.prog Zlr ⟨[.pointer (some ⟨cb,0,none⟩),.int .i64 g]⟩ H fun v H'=>
    v= .tuple ⟨[]⟩∧∃ob eb,Blk H' cb Zem ⟨l.set 4 (.pointer (some ⟨ob,0,none⟩))⟩∧ORep H' ob eb none 0 0 ⟨addN first 1,[],0,0,g,0⟩∧Keep (fun x=>x=cb) H H'∧∀y,OFt ob eb none y->H y=none:=by
  refine Zcep cb g ?_;unfold Zblb;refine ⟨_,cellL hb 3 h3,(Zee (n:=1) hf).mono ?_⟩;rintro _ _ ⟨rfl,e⟩;rw [e];refine ⟨_,rfl,(Zbxj (Zbb _ _) hg).mono ?_⟩;rintro _ H2 ⟨ob,eb,rfl,ho,k2,hn⟩;have b2:=k2.blk hb id;refine ⟨_,_,rfl,stL b2 (by omega) rfl fun H3 b3 k3=>fun H4 hs=>⟨rfl,ob,eb,Zcb b3 hs,(ho.keep k3 fun y hy e=>?_).shut hs,Zbl ((k2.mono fun _ h=>h.elim).trans k3) hs,hn⟩⟩
  rw [e] at hy;exact hb.some (hn cb hy)
theorem Zbuk (h:CX H0 F0 H cb p ga gc c now due xs) (h0:0 <= now) {g:Nat} (hg:1 <= g∧g <= 1460):FnW Tryz.prog Zlr ⟨[.pointer (some ⟨cb,0,none⟩),.int .i64 g]⟩ H fun v H'=>v= .tuple ⟨[]⟩∧∃p',CX H0 F0 H' cb p' ga gc (c.fresh g) now due xs:=by
  have hok:=h.rep.ok;refine (Zyt (g:=g) h.rep.blk rfl rfl hok.first hg).mono ?_;rintro _ H' ⟨rfl,ob,eb,b',ho,k,hn⟩;have hF: ∀y,CP.F ⟨ob,eb,none,0,0,p.jp⟩ cb y->p.F cb y∨H y=none:=fun y hy=>by rcases hy with e | e | e;exact .inl (.inl e);exact .inr (hn y e);exact .inl (.inr (.inr e))
  refine ⟨rfl,⟨ob,eb,none,0,0,p.jp⟩,⟨⟨hok.st,hok.first,Zbb _ _,Nat.zero_le _,Nat.le_refl _,Nat.zero_le _,hg,Nat.zero_le _,hok.inn,hok.some,hok.got⟩,ho,h0,?_,b',fun y hy hO=>?_⟩,h.kcb k,fun y hy=>?_,h.outs.step k (fun y hy=> .inl (.inl hy)) hF⟩;exact Zqs h.rep.inn k fun y hy e=>Zzk h.rep.inn h.rep.blk (e▸hy);exact Zzj h.rep.inn hy (hn y hO);rcases hF y hy with e | e;exact h.sub y e;exact .inr (h.keep.free e)
theorem Zbfb {s:Sg} {a:Option Addr} {n cp:Nat} (h0:0 <= s.big):FnW Tryz.prog Zxd ⟨[.agg ⟨sgL s a n cp⟩]⟩ H fun v H'=>v= .int .i64 (greatest s:Nat)∧Keep Nil H H':=by
  refine Zchb _ _ _ _ _ _ _ _ a n cp ?_;unfold Zbna;refine newB fun q H1 hq b k1=>⟨_,cellL b 7 rfl,IfB.intro (fun e H2 hs=>⟨?_,Zk k1 hs⟩) fun e=>⟨_,cellL b 7 rfl,fun H2 hs=>⟨?_,Zk k1 hs⟩⟩⟩
  . have e:s.big=0:=by simpa using e
    unfold greatest;rw [if_pos e];rfl
  . have e: ¬s.big=0:=by simpa using e
    unfold greatest;rw [if_neg e];congr 1;omega
theorem Zza {s:Sg} (h0:0 <= s.big):1 <= greatest s∧greatest s <= 1460:=by unfold greatest;split<;>omega
theorem Zbuh (h:CX H0 F0 H cb p ga gc c now due xs) (h0:0 <= now) {s:Sg} {a:Option Addr} {n cp:Nat} (hb:0 <= s.big) (hs:s.seq<4294967296):FnW Tryz.prog Zmk ⟨[.pointer (some ⟨cb,0,none⟩),.agg ⟨sgL s a n cp⟩]⟩ H fun v H'=>v= .tuple ⟨[]⟩∧∃p',CX H0 F0 H' cb p' ga gc (c.begin s) now due xs:=by
  refine Zbsb cb _ _ _ _ _ _ _ _ a n cp ?_;unfold Zbcx;refine newB fun q H1 hq b1 k1=>⟨_,cellL b1 2 rfl,(Zee (n:=1) hs).mono ?_⟩;rintro _ _ ⟨rfl,e⟩;rw [e];have h1:=h.nil k1;refine ⟨_,rfl,(Zbfr _ (Zbb s.seq 1)).mono ?_⟩;rintro _ H2 ⟨jb,rb,hb',rfl,hj,k2,hn⟩;have h2:=h1.nil k2;have hcb:=h2.rep.blk;refine ⟨_,_,rfl,stL hcb (by simp [cnL]) rfl fun H3 b3 k3=>?_⟩
  have hok:=h.rep.ok;have hnF: ∀y,JFt jb rb hb' none y->¬p.F cb y:=fun y hy hF=>h1.rep.live hF (hn y hy);have hF: ∀y,CP.F ⟨p.ob,p.eb,p.da,p.dc,p.onow,some ⟨jb,rb,hb',none,0,0⟩⟩ cb y->p.F cb y∨H1 y=none:=fun y hy=>by rcases hy with e | e | e;exact .inl (.inl e);exact .inl (.inr (.inl e));exact .inr (hn y e)
  have k23:Keep (fun x=>x=cb) H1 H3:=(k2.mono fun _ h=>h.elim).trans k3;have h3:CX H0 F0 H3 cb ⟨p.ob,p.eb,p.da,p.dc,p.onow,some ⟨jb,rb,hb',none,0,0⟩⟩ ga gc { c with inn:=some ⟨addN s.seq 1,[],fun _=>none⟩ } now due xs:=by
    refine ⟨⟨⟨hok.st,hok.first,hok.una,hok.len,hok.sent,hok.win,hok.big,hok.tries,fun j hj'=>?_,fun _=>by simp,fun _=>by simp⟩,?_,h.rep.le,?_,b3,fun y hy hO=>hnF y hy (.inr (.inl hO))⟩,h2.kcb k3,fun y hy=>?_,h1.outs.step k23 (fun y hy=> .inl (.inl hy)) hF⟩
    cases hj';exact hj.ok;exact h2.rep.out.keep k3 fun y hy e=>Zrb h2.rep.out h2.rep.blk (e▸hy);exact hj.keep k3 fun y hy e=>h1.rep.blk.some (e▸hn y hy);rcases hF y hy with e | e;exact h.sub y e;exact .inr (h1.keep.free e)
  have b31:Blk H3 q Zm ⟨sgL s a n cp⟩:=k23.blk b1 fun e=>h.rep.blk.some (e▸hq);refine ld9 b31 ((Zbfb hb).mono ?_);rintro _ H4 ⟨rfl,k4⟩;refine ⟨_,rfl,(Zbuk (h3.nil k4) h0 (Zza hb)).mono ?_⟩;rintro _ H5 ⟨rfl,p',h5⟩;exact ⟨rfl,fun H6 hs=>⟨rfl,p',h5.shut (S:=F0) h.keep hs⟩⟩
def Zkr:Sg:=⟨0,0,0,0,0,0,0,0,[]⟩
theorem Zbda {s:Sg} {a:Option Addr} {n cp:Nat} (h0:0 <= s.flags) (h1:s.flags<64) (hn:s.data.length=n) (hl:n <= 1000000) (hq:s.seq<4294967296) (hk:s.ack<4294967296):FnW Tryz.prog Zpx ⟨[.agg ⟨sgL s a n cp⟩]⟩ H fun v H'=>
    v=(match s.reset with
      | some r=> .tuple ⟨[.agg ⟨sgL r none 0 0⟩,.bool true]⟩
      | none=> .tuple ⟨[.agg ⟨sgL Zkr none 0 0⟩,.bool false]⟩)∧Keep Nil H H':=by
  refine Zcke _ _ _ _ _ _ _ _ a n cp ?_;unfold Zbqq;refine newB fun q H1 hq1 b1 k1=>newB fun r H2 hq2 b2 k2=>?_;have b12:=k2.blk b1 id;refine ⟨_,cellL b12 1 rfl,_,cellL b12 0 rfl,newB fun t H3 hq3 b3 k3=>?_⟩;have n1:q≠t:=fun e=>b12.some (e▸hq3);have n2:r≠t:=fun e=>b2.some (e▸hq3);have n3:q≠r:=fun e=>b1.some (e▸hq2);have r0:H r=none:=k1.free hq2;have t0:H t=none:=(k1.trans k2).free hq3;refine st9 (s:=⟨s.dst,s.src,0,0,4,0,0,0,[]⟩) b3 fun H4 b4 k4=>?_;have b14:=k4.blk (k3.blk b12 id) n1;have b24:=k4.blk (k3.blk b2 id) n2;have kk4:Keep Nil H H4:=((k1.trans k2).trans k3).then k4 fun y hy=> .inr (hy▸t0);refine ld9 b14 ((Zrs (k:=2) (.inr (.inr (.inl rfl))) h0 h1).mono ?_);rintro _ H5 ⟨rfl,k5⟩;have b15:=k5.blk b14 id;have b25:=k5.blk b24 id;have b35:=k5.blk b4 id;have kk5:=kk4.trans k5;refine ⟨_,rfl,IfB.intro (fun hr=>?_) fun hr=>?_⟩
  . have e:s.reset=none:=by unfold Sg.reset;rw [if_pos (show s.rst=true from hr)]
    rw [e];refine st9 (s:=Zkr) b25 fun H6 b6 k6=>ld9 b6 fun H7 hs=>⟨rfl,Zk (kk5.then k6 fun y hy=> .inr (hy▸r0)) hs⟩
  . have fin: ∀(H6:Heap) (o:Sg),Blk H6 t Zm ⟨sgL o none 0 0⟩->Blk H6 r Zm ⟨sgL Zkr none 0 0⟩->Keep Nil H H6->s.reset=some o->Zul r t H6 fun v H1=>∀H2,Shut H H1 H2->v=(match s.reset with
        | some r=> .tuple ⟨[.agg ⟨sgL r none 0 0⟩,.bool true]⟩
        | none=> .tuple ⟨[.agg ⟨sgL Zkr none 0 0⟩,.bool false]⟩)∧Keep Nil H H2:=by
      intro H6 o b6 br k6 e;unfold Zul;refine ld9 b6 (st9 (s:=o) br fun H7 b7 k7=>ld9 b7 fun H8 hs=>⟨by rw [e],Zk (k6.then k7 fun y hy=> .inr (hy▸r0)) hs⟩)
    refine ld9 b15 ((Zrs (k:=4) (.inr (.inr (.inr rfl))) h0 h1).mono ?_);rintro _ H6 ⟨rfl,k6⟩;have b16:=k6.blk b15 id;have b26:=k6.blk b25 id;have b36:=k6.blk b35 id;have kk6:=kk5.trans k6;refine ⟨_,rfl,IfB.intro (fun ha=>⟨_,cellL b16 3 rfl,stL b36 (by simp) rfl fun H7 b7 k7=>?_⟩) fun ha=>⟨_,cellL b36 4 rfl,stL b36 (by simp) rfl fun H7 b7 k7=>?_⟩⟩
    . have e:s.reset=some ⟨s.dst,s.src,s.ack,0,4,0,0,0,[]⟩:=by
        unfold Sg.reset;rw [show s.rst=false from hr,show s.acks=true from ha];rfl
      exact fin H7 ⟨s.dst,s.src,s.ack,0,4,0,0,0,[]⟩ b7 (k7.blk b26 n2) (kk6.then k7 fun y hy=> .inr (hy▸t0)) e
    . have ebit:Zea .i64 4 16=20:=by kernel_rfl
      have b17:=k7.blk b16 n1;have b27:=k7.blk b26 n2;have kk7:Keep Nil H H7:=kk6.then k7 fun y hy=> .inr (hy▸t0);obtain ⟨kp1,kp2⟩:=Zcq b17.some;refine ⟨[q],kp1,List.mem_singleton.2 rfl,_,cellL b17 2 rfl,ld9 b17 ((Znu h0 h1 hn hl).mono ?_)⟩;rintro _ H8 ⟨rfl,k8⟩;refine ⟨_,rfl,fun y hy=>?_,(Zee hq).mono ?_⟩;rw [List.mem_singleton.1 hy];have hbs: ∃ob,H7 q=some ob:=⟨_,b17⟩;exact ⟨hbs,k8.same q id b17.some⟩;rintro _ _ ⟨rfl,e⟩;rw [e];refine ⟨_,rfl,stL (k8.blk b7 id) (by simp) rfl fun H9 b9 k9=>?_⟩
      have e:s.reset=some ⟨s.dst,s.src,0,addN s.seq s.span,20,0,0,0,[]⟩:=by
        unfold Sg.reset;rw [show s.rst=false from hr,show s.acks=false from ha];rfl
      refine fin H9 _ ?_ (k9.blk (k8.blk b27 id) n2) ((kk7.trans k8).then k9 fun y hy=> .inr (hy▸t0)) e;simp only [ebit] at b9;exact b9
theorem Zbzv {s r:Sg} (h:s.reset=some r) (hq:s.seq<4294967296) (hk:s.ack<4294967296):r.seq<4294967296∧r.ack<4294967296∧r.data= []:=by unfold Sg.reset at h;split at h;cases h;split at h;cases h;exact ⟨hk,Nat.zero_lt_succ _,rfl⟩;cases h;exact ⟨Nat.zero_lt_succ _,Zbb _ _,rfl⟩
theorem Zbei (h:CIn H0 F0 H cb c now due l) {s:Sg} {a:Option Addr} {n cp:Nat} (h0:0 <= s.flags) (h1:s.flags<64) (hn:s.data.length=n) (hnl:n <= 1000000) (hq:s.seq<4294967296) (hk:s.ack<4294967296) (hl:l.length <= 10000):
    FnW Tryz.prog Zpc ⟨[.pointer (some ⟨cb,0,none⟩),.agg ⟨sgL s a n cp⟩]⟩ H fun v H'=>v= .tuple ⟨[]⟩∧CIn H0 F0 H' cb c now due (l++Cn.refuse s):=by
  refine Zcfp cb _ _ _ _ _ _ _ _ a n cp ?_;unfold Zblw;have h00:=h;obtain ⟨p,ga,gc,xs,h,rfl⟩:=h;refine newB fun q H1 hq1 b1 k1=>ld9 b1 ((Zbda h0 h1 hn hnl hq hk).mono ?_);rintro _ H2 ⟨rfl,k2⟩;have h2:=(h.nil k1).nil k2;cases hr:s.reset with
  | none=>
    refine ⟨_,_,_,_,_,_,_,_,_,_,_,_,rfl,newB fun t H3 hq3 b3 k3=>st9 (s:=Zkr) b3 fun H4 b4 k4=>ifF rfl fun H5 hs=>⟨rfl,?_⟩⟩;have kk:Keep Nil H2 H4:=k3.then k4 fun y hy=> .inr (hy▸hq3);refine ⟨p,ga,gc,xs,(h2.nil kk).shut (S:=F0) h.keep hs,?_⟩;unfold Cn.refuse;rw [hr];simp
  | some r=>
    obtain ⟨r1,r2,r3⟩:=Zbzv hr hq hk;refine ⟨_,_,_,_,_,_,_,_,_,_,_,_,rfl,newB fun t H3 hq3 b3 k3=>st9 (s:=r) b3 fun H4 b4 k4=>ifT rfl ?_⟩;have kk:Keep Nil H2 H4:=k3.then k4 fun y hy=> .inr (hy▸hq3);have h4:=h2.nil kk;refine ⟨_,_,_,cellL h4.rep.blk 12 rfl,ld9 b4 (newB fun u H5 hq5 b5 k5=>?_)⟩;have h5:=h4.nil k5;have b5':Blk H5 u Zm ⟨sgL r none r.data.length 0⟩:=by rw [r3];exact b5
    refine Zbgy (x:=(r,none,0)) h5.outs h5.keep b5' (SegD.bare r1 r2 r3) (fun y hy=>h5.rep.live hy) (by simpa using hl) fun gb gc' H6 o6 k6=>?_
    have hr6:CRep H6 cb p c now due ga xs.length gc:=h5.rep.keep k6 fun y hy e=>h5.outs.far y e hy;refine ⟨_,_,_,rfl,stL hr6.blk (by simp [cnL]) rfl fun H7 b7 k7=>fun H8 hs=>⟨rfl,p,_,gc',_,CX.shut (S:=F0) ⟨hr6.put k7 b7 h.rep.ok rfl rfl h.rep.le,?_,h.sub,o6.step k7 (fun y hy=> .inl (.inl hy)) fun y h=> .inl h⟩ h.keep hs,?_⟩⟩
    exact (h5.keep.then k6 fun y hy=> .inr (h5.outs.own.free hy)).then k7 fun y hy=>h.sub y (.inl hy);unfold Cn.refuse;rw [hr];simp
end
end Go.Proofs.YtaljkjokbdpdoaaGreat
end
