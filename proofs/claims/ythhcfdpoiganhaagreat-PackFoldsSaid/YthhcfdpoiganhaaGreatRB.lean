/-
 The reader of attributes in its block:what it stands for,and what leaves it as it is.
-/
import Derived.Test.YthhcfdpoiganhaaGreatRA
import Derived.Test.YthhcfdpoiganhaaGreatBA
import Derived.Test.YthhcfdpoiganhaaGreatED
import Derived.Test.YthhcfdpoiganhaaGreatEB
set_option linter.all false
section
namespace Go.Proofs.YthhcfdpoiganhaaGreat
open Go.Sh
abbrev Zfn:Kd:= .lst [.bool,.lst [.int .u32]]
abbrev Zby:Kd:= .lst [.int .u8]
abbrev Zoh:List Kd:=[.int .i64,.lst [.int .u8]]
def Or2 (A B:Nat->Prop):Nat->Prop:=fun x=>A x∨B x
structure AtI (Z0:Nat->Prop) (H0 H:Heap) (b:Nat) (Zn:Nat->Prop) (p:List Seg) (vp:Value) (cs:List UInt32) (ca:Option Addr) (cc:Nat) (os:List Raw) (oa:Option Addr) (oc:Nat):Prop where
 keep:Keep Nil H0 H
 new:Zcd H0 H Zn
 bn:H0 b=none
 bz: ¬Zn b
 path:Zb (Or2 Z0 Zn) H Zfn p vp
 comms:Sh.Own H0 H ca cs.length cc 1 Zdm (cs.map fun x=>Value.int .u32 (x.toNat:Int))
 cz: ∀m,ca=some ⟨m,0,none⟩->¬Zn m
 clt:cc <= Zw
 others: ∃xs,Sh.Own H0 H oa os.length oc 2 Zcl xs∧∀i r,os[i]? =some r->Ze (Or2 Z0 Zn) H Zoh r (fun j=>xs[i*2+j]?)
 oz: ∀m,oa=some ⟨m,0,none⟩->¬Zn m
 olt:oc <= Zw
theorem Zii {S:Nat->Prop} {H0 H H':Heap} (h:Keep Nil H0 H) (k:Keep S H H') (hs: ∀x,S x->H0 x=none):Keep Nil H0 H':=h.then k fun b hb=> .inr (hs b hb)
theorem Zlk {S:Nat->Prop} {H0 H H':Heap} {a:Option Addr} {n cap sz:Nat} {T:TypeId} {xs:List Value} (h:Sh.Own H0 H a n cap sz T xs) (k:Keep S H H') (hs: ∀x,S x->a≠some ⟨x,0,none⟩):Sh.Own H0 H' a n cap sz T xs:=
 h.keep k fun b hb hx=>hs b hx hb
section
variable {Z0:Nat->Prop} {H0 H:Heap} {b:Nat} {Zn:Nat->Prop} {p:List Seg} {vp:Value} {cs:List UInt32} {ca:Option Addr} {cc:Nat} {os:List Raw} {oa:Option Addr} {oc:Nat}
theorem AtI.zlive (h:AtI Z0 H0 H b Zn p vp cs ca cc os oa oc) (hz0: ∀x,Z0 x->H0 x≠none): ∀x,Or2 Z0 Zn x->H x≠none:=fun x hx=>hx.elim (fun h1=>h.keep.live x (hz0 x h1)) (fun h1=>(h.new x h1).2.1)
theorem AtI.step (h:AtI Z0 H0 H b Zn p vp cs ca cc os oa oc) (hz0: ∀x,Z0 x->H0 x≠none) {S:Nat->Prop} {H':Heap} (k:Keep S H H') (hS: ∀x,S x->H0 x=none∧¬Zn x∧ca≠some ⟨x,0,none⟩∧oa≠some ⟨x,0,none⟩):AtI Z0 H0 H' b Zn p vp cs ca cc os oa oc:=by
 have hz: ∀x,Or2 Z0 Zn x->Or2 Z0 Zn x∧H' x=H x:=fun x hx=>⟨hx,k.same x (fun hs=>by
  obtain ⟨h1,h2,_⟩:=hS x hs;rcases hx with hx | hx;exact hz0 x hx h1
  ·exact h2 hx) (h.zlive hz0 x hx)⟩
 refine ⟨Zii h.keep k fun x hx=>(hS x hx).1,h.new.later k fun x hx hs=>(hS x hs).2.1 hx,h.bn,h.bz,Zb.ext hz _ _ _ h.path,Zlk h.comms k fun x hx=>(hS x hx).2.2.1,h.cz,h.clt,?_,h.oz,h.olt⟩;obtain ⟨xs,h1,h2⟩:=h.others;exact ⟨xs,Zlk h1 k fun x hx=>(hS x hx).2.2.2,fun i r hr=>Ze.ext hz _ _ _ (h2 i r hr)⟩
theorem AtI.kept (h:AtI Z0 H0 H b Zn p vp cs ca cc os oa oc) (hz0: ∀x,Z0 x->H0 x≠none) {H':Heap} (k:Keep Nil H H'):AtI Z0 H0 H' b Zn p vp cs ca cc os oa oc:=h.step hz0 k fun _ h=>h.elim
theorem AtI.more (h:AtI Z0 H0 H b Zn p vp cs ca cc os oa oc) {H1:Heap} {Z1:Nat->Prop} (k:Keep Nil H1 H) (hf:Zcd H1 H Z1) (k0:Keep Nil H0 H1) (h1b:H1 b≠none) (h1c: ∀m,ca=some ⟨m,0,none⟩->H1 m≠none) (h1o: ∀m,oa=some ⟨m,0,none⟩->H1 m≠none):AtI Z0 H0 H b (Or2 Zn Z1) p vp cs ca cc os oa oc:=by have hz: ∀x,Or2 Z0 Zn x->Or2 Z0 (Or2 Zn Z1) x∧H x=H x:=fun x hx=>⟨hx.elim .inl fun h=> .inr (.inl h),rfl⟩;refine ⟨h.keep,h.new.both (hf.early k0),h.bn,fun hx=>hx.elim h.bz fun h=>h1b (hf b h).1,Zb.ext hz _ _ _ h.path,h.comms,fun m hm hx=>hx.elim (h.cz m hm) fun h=>h1c m hm (hf m h).1,h.clt,?_,fun m hm hx=>hx.elim (h.oz m hm) fun h=>h1o m hm (hf m h).1,h.olt⟩;obtain ⟨xs,h1,h2⟩:=h.others;exact ⟨xs,h1,fun i r hr=>Ze.ext hz _ _ _ (h2 i r hr)⟩
theorem AtI.setPath (h:AtI Z0 H0 H b Zn p vp cs ca cc os oa oc) {p':List Seg} {vp':Value} (hp:Zb (Or2 Z0 Zn) H Zfn p' vp'):AtI Z0 H0 H b Zn p' vp' cs ca cc os oa oc:={ h with path:=hp }
theorem AtI.liveC (h:AtI Z0 H0 H b Zn p vp cs ca cc os oa oc) (m:Nat) (hm:ca=some ⟨m,0,none⟩): ∃c,Blk H m Zdm c:=h.comms.live hm
theorem AtI.liveO (h:AtI Z0 H0 H b Zn p vp cs ca cc os oa oc) (m:Nat) (hm:oa=some ⟨m,0,none⟩): ∃c,Blk H m Zcl c:=by obtain ⟨xs,h1,_⟩:=h.others;exact h1.live hm
end
def attV (a:Za) (vp:Value) (ca:Option Addr) (cc:Nat) (oa:Option Addr) (oc:Nat):List Value:=
 [.int .i64 a.origin,vp,.int .u32 (a.next.toNat:Int),.bool a.hasMed,.int .u32 (a.med.toNat:Int),.bool a.hasLocal,.int .u32 (a.loc.toNat:Int),.bool a.atomic,.bool a.hasMaker,.int .u32 (a.makerAS.toNat:Int),.int .u32 (a.maker.toNat:Int),.slice ca a.comms.length cc,.slice oa a.others.length oc]
def Zbg (s:RdS) (four:Bool) (vp:Value) (ca:Option Addr) (cc:Nat) (oa:Option Addr) (oc:Nat) (seen:List Bool) (v4 vm:Value) (h4:Bool):List Value:=
 attV s.a vp ca cc oa oc++(.bool four:: .int .i64 (s.worst:Int)::(seen.map Value.bool++[v4,vm,.bool h4]))
def P4 (Z:Nat->Prop) (H:Heap) (p4:Option (List Seg)) (v4:Value) (h4:Bool):Prop:=match p4 with
 | some q=>h4=true∧Zb Z H Zfn q v4
 | none=>h4=false∧∃a n c,v4= .slice a n c
def M4 (Z:Nat->Prop) (H:Heap) (m4:Option (UInt32×UInt32)) (vm:Value):Prop:=match m4 with
 | some m=>∃d:List UInt8,d.length=8∧Zb Z H Zby d vm∧u32B (d.take 4)=m.1∧u32B (d.drop 4)=m.2
 | none=>vm= .slice none 0 0
theorem P4.ext {Z Z':Nat->Prop} {H H':Heap} (hz: ∀x,Z x->Z' x∧H' x=H x) {p4:Option (List Seg)} {v4:Value} {h4:Bool} (h:P4 Z H p4 v4 h4):P4 Z' H' p4 v4 h4:=by
 unfold P4 at*;cases p4 with
 | none=>exact h
 | some q=>exact ⟨h.1,Zb.ext hz _ _ _ h.2⟩
theorem M4.ext {Z Z':Nat->Prop} {H H':Heap} (hz: ∀x,Z x->Z' x∧H' x=H x) {m4:Option (UInt32×UInt32)} {vm:Value} (h:M4 Z H m4 vm):M4 Z' H' m4 vm:=by
 unfold M4 at*;cases m4 with
 | none=>exact h
 | some m=>
  obtain ⟨d,h1,h2,h3⟩:=h;exact ⟨d,h1,Zb.ext hz _ _ _ h2,h3⟩
def Zbfw (seen:List Bool) (l:List Nat):Prop:=seen.length=256∧∀k,k<256->seen.getD k false=decide (k∈l)
structure RdX (Z0:Nat->Prop) (H0 H:Heap) (b:Nat) (four:Bool) (Zn:Nat->Prop) (vp:Value) (ca:Option Addr) (cc:Nat) (oa:Option Addr) (oc:Nat) (seen:List Bool) (v4 vm:Value) (h4:Bool) (s:RdS):Prop where
 at_:AtI Z0 H0 H b Zn s.a.path vp s.a.comms ca cc s.a.others oa oc
 blk:Blk H b Zea ⟨Zbg s four vp ca cc oa oc seen v4 vm h4⟩
 seen:Zbfw seen s.seen
 p4:P4 (Or2 Z0 Zn) H s.p4 v4 h4
 m4:M4 (Or2 Z0 Zn) H s.m4 vm
def Rd (Z0:Nat->Prop) (H0 H:Heap) (b:Nat) (four:Bool) (s:RdS):Prop:=∃Zn vp ca cc oa oc seen v4 vm h4,RdX Z0 H0 H b four Zn vp ca cc oa oc seen v4 vm h4 s
def Calm (H H':Heap):Prop:=∀x T c,Blk H x T c->T≠Zea->T≠Zdm->T≠Zcl->Blk H' x T c
theorem Calm.refl (H:Heap):Calm H H:=fun _ _ _ h _ _ _=>h
theorem Calm.trans {A B C:Heap} (h:Calm A B) (k:Calm B C):Calm A C:=fun x T c hb h1 h2 h3=>k x T c (h x T c hb h1 h2 h3) h1 h2 h3
theorem Zbqn {S:Nat->Prop} {H H':Heap} (k:Keep S H H') (hs: ∀x,S x->∃T c,Blk H x T c∧(T=Zea∨T=Zdm∨T=Zcl)):Calm H H':=fun x T c hb h1 h2 h3=>k.blk hb fun hx=>by
 obtain ⟨T',c',hb',hT⟩:=hs x hx;have e:T=T':=by unfold Blk at hb hb';rw [hb] at hb';cases hb';rfl
 subst e;rcases hT with h | h | h;exact h1 h;exact h2 h;exact h3 h
theorem Zem {H H':Heap} (k:Keep Nil H H'):Calm H H':=Zbqn k fun _ h=>h.elim
theorem Zblf {H0 H H' H'':Heap} (k:Calm H H') (hs:Shut H0 H' H''):Calm H H'':=fun x T c hb h1 h2 h3=>Zbhz (k x T c hb h1 h2 h3) hs
section
variable {Z0:Nat->Prop} {H0 H:Heap} {b:Nat} {four:Bool} {Zn:Nat->Prop} {vp:Value} {ca:Option Addr} {cc:Nat} {oa:Option Addr} {oc:Nat} {seen:List Bool} {v4 vm:Value} {h4:Bool} {s:RdS}
theorem RdX.get (h:RdX Z0 H0 H b four Zn vp ca cc oa oc seen v4 vm h4 s) (j:Nat) {v:Value} (e:(Zbg s four vp ca cc oa oc seen v4 vm h4)[j]? =some v):H.cell ⟨b,j,none⟩=some v:=by rw [h.blk.cell];simpa using e
theorem Zbzd (hl:seen.length=256) {k:Nat} (hk:k<256):(Zbg s four vp ca cc oa oc seen v4 vm h4)[15+k]? =some (.bool (seen.getD k false)):=by
 unfold Zbg;have e:(attV s.a vp ca cc oa oc).length=13:=rfl;rw [Yg (by omega),show 15+k - (attV s.a vp ca cc oa oc).length=k+1+1 by omega,List.getElem?_cons_succ,List.getElem?_cons_succ,Yd (by rw [Yz];omega),Yaa,Yc (by omega)]
 simp [Y6,Yc (show k<seen.length by omega)]
theorem Zrw (hl:seen.length=256) (j:Nat):(Zbg s four vp ca cc oa oc seen v4 vm h4)[271+j]? = [v4,vm,.bool h4][j]? :=by unfold Zbg;have e:(attV s.a vp ca cc oa oc).length=13:=rfl;rw [Yg (by omega),show 271+j - (attV s.a vp ca cc oa oc).length=(256+j)+1+1 by omega,List.getElem?_cons_succ,List.getElem?_cons_succ,Yg (by rw [Yz];omega),Yz,show 256+j - seen.length=j by omega]
theorem Zbre (hl:seen.length=256):(Zbg s four vp ca cc oa oc seen v4 vm h4).length=274:=by simp [Zbg,attV,hl]
theorem RdX.blkC (h:RdX Z0 H0 H b four Zn vp ca cc oa oc seen v4 vm h4 s):ca≠some ⟨b,0,none⟩:=fun e=>by obtain ⟨c,hc⟩:=h.at_.liveC b e;have:=h.blk;unfold Blk at this hc;rw [this] at hc;cases hc
theorem RdX.blkO (h:RdX Z0 H0 H b four Zn vp ca cc oa oc seen v4 vm h4 s):oa≠some ⟨b,0,none⟩:=fun e=>by obtain ⟨c,hc⟩:=h.at_.liveO b e;have:=h.blk;unfold Blk at this hc;rw [this] at hc;cases hc
theorem RdX.turn (h:RdX Z0 H0 H b four Zn vp ca cc oa oc seen v4 vm h4 s) (hz0: ∀x,Z0 x->H0 x≠none) {H':Heap} (ho: ∀x,x≠b->H' x=H x) {s':RdS} {vp':Value} {seen':List Bool} {v4' vm':Value} {h4':Bool}
  (hb:Blk H' b Zea ⟨Zbg s' four vp' ca cc oa oc seen' v4' vm' h4'⟩) (hc:s'.a.comms=s.a.comms) (hos:s'.a.others=s.a.others) (hp:Zb (Or2 Z0 Zn) H Zfn s'.a.path vp') (hs:Zbfw seen' s'.seen)
  (hp4:P4 (Or2 Z0 Zn) H s'.p4 v4' h4') (hm4:M4 (Or2 Z0 Zn) H s'.m4 vm'):RdX Z0 H0 H' b four Zn vp' ca cc oa oc seen' v4' vm' h4' s':=by
 have k:Keep (fun x=>x=b) H H':=⟨fun x hx _=>ho x hx,fun x hx=>by
  by_cases e:x=b;subst e;exact hb.some
  ·rw [ho x e];exact hx⟩
 have hst: ∀x,x=b->H0 x=none∧¬Zn x∧ca≠some ⟨x,0,none⟩∧oa≠some ⟨x,0,none⟩:=fun x e=>by subst e;exact ⟨h.at_.bn,h.at_.bz,h.blkC,h.blkO⟩
 have hz: ∀x,Or2 Z0 Zn x->Or2 Z0 Zn x∧H' x=H x:=fun x hx=>⟨hx,ho x fun e=>by
  subst e;rcases hx with hx | hx;exact hz0 x hx h.at_.bn
  ·exact h.at_.bz hx⟩
 have a1:=h.at_.step hz0 k hst;have a2:=a1.setPath (Zb.ext hz _ _ _ hp);refine ⟨?_,hb,hs,hp4.ext hz,hm4.ext hz⟩;rw [hc,hos];exact a2
theorem RdX.kept (h:RdX Z0 H0 H b four Zn vp ca cc oa oc seen v4 vm h4 s) (hz0: ∀x,Z0 x->H0 x≠none) {H':Heap} (k:Keep Nil H H'):RdX Z0 H0 H' b four Zn vp ca cc oa oc seen v4 vm h4 s:=by have hz: ∀x,Or2 Z0 Zn x->Or2 Z0 Zn x∧H' x=H x:=fun x hx=>⟨hx,k.same x (fun h=>h.elim) (h.at_.zlive hz0 x hx)⟩;exact ⟨h.at_.kept hz0 k,k.blk h.blk fun h=>h.elim,h.seen,h.p4.ext hz,h.m4.ext hz⟩
theorem RdX.more (h:RdX Z0 H0 H b four Zn vp ca cc oa oc seen v4 vm h4 s) (hz0: ∀x,Z0 x->H0 x≠none) {H':Heap} {Z1:Nat->Prop} (k:Keep Nil H H') (hf:Zcd H H' Z1):RdX Z0 H0 H' b four (Or2 Zn Z1) vp ca cc oa oc seen v4 vm h4 s:=by have h1:=h.kept hz0 k;have hz: ∀x,Or2 Z0 Zn x->Or2 Z0 (Or2 Zn Z1) x∧H' x=H' x:=fun x hx=>⟨hx.elim .inl fun h=> .inr (.inl h),rfl⟩;refine ⟨h1.at_.more k hf h.at_.keep h.blk.some (fun m hm=>?_) (fun m hm=>?_),h1.blk,h1.seen,h1.p4.ext hz,h1.m4.ext hz⟩;obtain ⟨c,hc⟩:=h.at_.liveC m hm;exact hc.some;obtain ⟨c,hc⟩:=h.at_.liveO m hm;exact hc.some
theorem RdX.st (h:RdX Z0 H0 H b four Zn vp ca cc oa oc seen v4 vm h4 s) (j:Nat) {v:Value} {K:Heap->Prop} (hj:j<274) (hv:Zv v=true) (hk: ∀H',Blk H' b Zea ⟨(Zbg s four vp ca cc oa oc seen v4 vm h4).set j v⟩->(∀x,x≠b->H' x=H x)->K H'):Zc H ⟨b,j,none⟩ v K:=by
 refine Zc.blk h.blk (by simp only [Y1];rw [Zbre h.seen.1];exact hj) hv (hk _ ?_ fun x hx=>Sh.upd_ne hx)
 have e:(⟨Zbg s four vp ca cc oa oc seen v4 vm h4⟩:Array Value).setIfInBounds j v=⟨(Zbg s four vp ca cc oa oc seen v4 vm h4).set j v⟩:=by apply Y2;simp
 rw [e];exact Blk.upd_eq
theorem RdX.keepB (h:RdX Z0 H0 H b four Zn vp ca cc oa oc seen v4 vm h4 s) {H':Heap} {c:List Value} (hb:Blk H' b Zea ⟨c⟩) (ho: ∀x,x≠b->H' x=H x):Keep (fun x=>x=b) H H':=⟨fun x hx _=>ho x hx,fun x hx=>by
  by_cases e:x=b;subst e;exact hb.some
  ·rw [ho x e];exact hx⟩
theorem RdX.calmB (h:RdX Z0 H0 H b four Zn vp ca cc oa oc seen v4 vm h4 s) {H':Heap} (ho: ∀x,x≠b->H' x=H x):Calm H H':=fun x T c hb h1 _ _=>by refine hb.same (ho x fun e=>?_);subst e;have:=h.blk;unfold Blk at this hb;rw [this] at hb;cases hb;exact h1 rfl
theorem RdX.shut (h:RdX Z0 H0 H b four Zn vp ca cc oa oc seen v4 vm h4 s) (hz0: ∀x,Z0 x->H0 x≠none) {Hs H':Heap} (hs:Shut Hs H H') (hk: ∀x,H0 x≠none->Hs x≠none):RdX Z0 H0 H' b four Zn vp ca cc oa oc seen v4 vm h4 s:=by
 have hown: ∀{a:Option Addr} {n c sz:Nat} {T:TypeId} {xs:List Value},Sh.Own H0 H a n c sz T xs->Sh.Own H0 H' a n c sz T xs:=fun {a n c sz T xs} ho=>by refine ⟨ho.1,ho.2.1,?_⟩;rcases ho.2.2 with h1 | ⟨m,rest,h1,h2,h3,h4⟩;exact .inl h1;exact .inr ⟨m,rest,h1,h2,Zbhz h3 hs,h4⟩
 have hsame: ∀x,H0 x≠none->H' x=H x:=fun x hx=>by rcases hs x with e | ⟨e,_,_⟩;exact e;exact absurd e (hk x hx)
 have hz: ∀x,Or2 Z0 Zn x->Or2 Z0 Zn x∧H' x=H x:=fun x hx=>⟨hx,by
  rcases hx with hx | hx;exact hsame x (hz0 x hx)
  ·rcases hs x with e | ⟨_,e,_⟩;exact e
   ·exact absurd e ((h.at_.new x hx).2.2 _)⟩
 refine ⟨⟨⟨fun x hx h0=>(hsame x h0).trans (h.at_.keep.same x hx h0),fun x h0=>by rw [hsame x h0];exact h.at_.keep.live x h0⟩,h.at_.new.shut hs,h.at_.bn,h.at_.bz,Zb.ext hz _ _ _ h.at_.path,hown h.at_.comms,h.at_.cz,h.at_.clt,?_,h.at_.oz,h.at_.olt⟩,Zbhz h.blk hs,h.seen,h.p4.ext hz,h.m4.ext hz⟩
 obtain ⟨xs,h1,h2⟩:=h.at_.others;exact ⟨xs,hown h1,fun i r hr=>Ze.ext hz _ _ _ (h2 i r hr)⟩
end
theorem Zli {Z0:Nat->Prop} {H0 H:Heap} {b:Nat} {four:Bool} {s:RdS} (hz0: ∀x,Z0 x->H0 x≠none) (h:Rd Z0 H0 H b four s) (w:Nat):
  FnW Tryz.prog Zht ⟨[.pointer (some ⟨b,0,none⟩),.int .i64 (w:Int)]⟩ H fun v H'=>v= .tuple ⟨[]⟩∧Rd Z0 H0 H' b four (s.found w)∧Calm H H':=by
 obtain ⟨Zn,vp,ca,cc,oa,oc,seen,v4,vm,h4,h⟩:=h;refine Zczn b w ⟨s.worst,h.get 14 rfl,h.st 14 (by decide) rfl fun H1 hb ho H2 hs=>⟨rfl,?_⟩⟩
 have e:(max (s.worst:Int) w)=((max s.worst w:Nat):Int):=by omega
 rw [e] at hb;have h1:RdX Z0 H0 H1 b four Zn vp ca cc oa oc seen v4 vm h4 (s.found w):=h.turn hz0 ho hb rfl rfl h.at_.path h.seen h.p4 h.m4;refine ⟨⟨Zn,vp,ca,cc,oa,oc,seen,v4,vm,h4,h1.shut hz0 hs fun x hx=>h.at_.keep.live x hx⟩,Zblf (h.calmB ho) hs⟩
end Go.Proofs.YthhcfdpoiganhaaGreat
end
section
namespace Go.Proofs.YthhcfdpoiganhaaGreat
open Go.Sh
structure Lyd (H:Heap):Prop where
 live: ∀b,Laid.blocks b=true->H b≠none
 ok:Laid.ok (layH H)
theorem Lyd.keep {H H':Heap} (h:Lyd H) (k:Keep Nil H H'):Lyd H':=by
 refine ⟨fun b hb=>k.live b (h.live b hb),?_⟩;have e:layH H'=layH H:=by
  funext b;unfold layH;cases hb:Laid.blocks b with
  | true=>exact k.same b (fun h=>h.elim) (h.live b hb)
  | false=>rfl
 rw [e];exact h.ok
theorem hd4 {d:List UInt8} (h:4 <= d.length): ∃x y z w r,d=x::y::z::w::r:=by
 match d,h with
 | x::y::z::w::r,_=>exact ⟨x,y,z,w,r,rfl⟩
theorem Zjw {H:Heap} {Z:Nat->Prop} {d:List UInt8} {v:Value} (hz: ∀x,Z x->H x≠none) (hy:Lyd H) (hd:Zb Z H Zby d v) (hl:4 <= d.length):
  FnW Tryz.prog Zhc ⟨[v]⟩ H fun r H'=>Keep Nil H H'∧r= .int .u32 ((u32B (d.take 4)).toNat:Int):=by
 obtain ⟨x,y,z,w,t,rfl⟩:=hd4 hl;refine (FnQ.run (x:=((x::y::z::w::t:List UInt8),())) Zcoj rfl rfl (Z:=Z) ?_ hz hy.live hy.ok (K:=fun r=>r.1=(numB [x,y,z,w]:Int)) (Zdmt x y z w t _ rfl)).mono fun r H' hk=>?_;simp only [pksA,pkA,SimL,SimV,and_true];exact hd
 ·obtain ⟨k,y1,h1,_,h3⟩:=hk;have:=h3 0 (gZ fun _=>False);obtain ⟨y1,u⟩:=y1;simp only at h1;subst h1;simp only [pksA,pkA,outA,SimV] at this;refine ⟨k,?_⟩;rw [this.1];have e:(x::y::z::w::t).take 4= [x,y,z,w]:=rfl;rw [e];have hb:=Zbdi [x,y,z,w];simp only [List.length_cons,List.length_nil] at hb;have:(u32B [x,y,z,w]).toNat=numB [x,y,z,w]:=by unfold u32B;rw [YOa];omega
  rw [this]
theorem Zcrx {H:Heap} (n:UInt32) (hy:Lyd H):FnW Tryz.prog Zoe ⟨[.int .u32 (n.toNat:Int)]⟩ H fun r H'=>Keep Nil H H'∧r= .bool (decide ((n.toNat:Int)≠0∧(n.toNat:Int)<3758096384)):=by
 refine (FnQ.run (x:=((n.toNat:Int),())) Zcae rfl rfl (Z:=fun _=>False) ?_ (fun _ h=>h.elim) hy.live hy.ok (K:=fun r=>r.1=decide ((n.toNat:Int)≠0∧(n.toNat:Int)<3758096384)) (Zcft _ _ rfl)).mono fun r H' hk=>?_;simp only [pksA,pkA,SimL,SimV,and_true];exact ⟨trivial,by simp [loI],by have:=Yda n;simp only [hiI];omega⟩
 obtain ⟨k,y1,h1,_,h3⟩:=hk;have:=h3 0 (gZ fun _=>False);obtain ⟨y1,u⟩:=y1;simp only at h1;subst h1;simp only [pksA,pkA,outA,SimV] at this;exact ⟨k,this⟩
theorem Zdci {H:Heap} (n:Int) (hn:InR .i64 n) (hy:Lyd H):FnW Tryz.prog Zmc ⟨[.int .i64 n]⟩ H fun r H'=>Keep Nil H H'∧r= .tuple ⟨[.int .u8 (Zcq n),.bool (Zfk n)]⟩:=by
 refine (FnQ.run (x:=(n,())) Zbxn rfl rfl (Z:=fun _=>False) ?_ (fun _ h=>h.elim) hy.live hy.ok (K:=fun r=>r.1=Zcq n∧r.2.1=Zfk n) (Zbkn _ _ ⟨rfl,rfl⟩)).mono fun r H' hk=>?_;simp only [pksA,pkA,SimL,SimV,and_true];exact ⟨trivial,hn⟩
 ·obtain ⟨k,y1,h1,_,h3⟩:=hk;have:=h3 0 (gZ fun _=>False);obtain ⟨y1,y2,u⟩:=y1;simp only at h1;obtain ⟨rfl,rfl⟩:=h1;simp only [pksA,pkA,outA,SimV,SimL] at this;obtain ⟨vs,rfl,hvs⟩:=this
  match vs,hvs with
  | [a,b],hvs=>
   simp only [SimL,SimV,and_true] at hvs;obtain ⟨⟨rfl,_⟩,rfl⟩:=hvs;exact ⟨k,rfl⟩
theorem Zcdb {H:Heap} {Z:Nat->Prop} {d:List UInt8} {v:Value} {four:Bool} (hz: ∀x,Z x->H x≠none) (hy:Lyd H) (hd:Zb Z H Zby d v) (hl:d.length <= 1000000000):
  FnW Tryz.prog Zun ⟨[v,.bool four]⟩ H fun r H'=>Keep Nil H H'∧∃Zn p vp e,Zcd H H' Zn∧r= .tuple ⟨[vp,.int .i64 e]⟩∧Zb (Or2 Z Zn) H' Zfn p vp∧((Zew four d=some p∧e=0)∨(Zew four d=none∧p= []∧e=7)):=by
 refine (FnQ.runZ (x:=(d,four,())) Zdin rfl rfl (Z:=Z) ?_ hz hy.live hy.ok (K:=fun r=>(Zew four d=some r.1∧(r.2.1:Int)=(0:Int))∨(Zew four d=none∧r.1= []∧(r.2.1:Int)=(7:Int))) (Zdkm d four _ hl ?_)).mono fun r H' hk=>?_;simp only [pksA,pkA,SimL,SimV,and_true];exact hd
 ·unfold rpK;cases h:Zew four d with
  | none=>exact .inr ⟨rfl,rfl,rfl⟩
  | some p=>exact .inl ⟨rfl,rfl⟩
 ·obtain ⟨k,y1,Zn,h1,_,hf,h3⟩:=hk;obtain ⟨p,e,u⟩:=y1;simp only [pksA,pkA,outA,SimV,SimL] at h3 h1;obtain ⟨vs,rfl,hvs⟩:=h3
  match vs,hvs with
  | [a,b],hvs=>
   simp only [SimL,SimV,and_true] at hvs;obtain ⟨ha,rfl,_⟩:=hvs;exact ⟨k,Zn,p,a,e,hf,rfl,ha,h1⟩
theorem Zcmy {H:Heap} {Z:Nat->Prop} {p q:List Seg} {vp vq:Value} (hz: ∀x,Z x->H x≠none) (hy:Lyd H) (hp:Zb Z H Zfn p vp) (hq:Zb Z H Zfn q vq) (h2:p.length+cnt p <= 1000000) (h4:q.length+cnt q <= 1000000):
  FnW Tryz.prog Zbge ⟨[vp,vq]⟩ H fun r H'=>Keep Nil H H'∧∃Zn,Zcd H H' Zn∧Zb (Or2 Z Zn) H' Zfn (Zei p q) r:=by
 refine (FnQ.runZ (x:=(p,q,())) Zcte rfl rfl (Z:=Z) ?_ hz hy.live hy.ok (K:=fun r=>r.1=Zei p q) (Zdkh p q _ h2 h4 rfl)).mono fun r H' hk=>?_;simp only [pksA,pkA,SimL,SimV,and_true];exact ⟨hp,hq⟩;obtain ⟨k,y1,Zn,h1,_,hf,h3⟩:=hk;obtain ⟨m,u⟩:=y1;simp only at h1;subst h1;simp only [pksA,pkA,outA,SimV] at h3;exact ⟨k,Zn,hf,h3⟩
theorem Zcqd {H:Heap} {Z:Nat->Prop} {p:List Seg} {vp:Value} (hz: ∀x,Z x->H x≠none) (hy:Lyd H) (hp:Zb Z H Zfn p vp) (hl:p.length <= 9223372036854775807) (hc:cnt p <= 9223372036854775807):
  FnW Tryz.prog Zle ⟨[vp]⟩ H fun r H'=>Keep Nil H H'∧r= .int .i64 (Zhm (Zbh p)):=by
 refine (FnQ.run (x:=(p,())) Zcfn rfl rfl (Z:=Z) ?_ hz hy.live hy.ok (K:=fun r=>r.1=Zhm (Zbh p)) (Zwg p _ hl hc rfl)).mono fun r H' hk=>?_;simp only [pksA,pkA,SimL,SimV,and_true];exact hp;obtain ⟨k,y1,h1,_,h3⟩:=hk;have:=h3 0 (gZ fun _=>False);obtain ⟨y1,u⟩:=y1;simp only at h1;subst h1;simp only [pksA,pkA,outA,SimV] at this;exact ⟨k,this.1⟩
theorem Zbpj (s:List UInt8) (K:List UInt8->Prop) (hl:s.length <= 1000000000) (h:K s):Zvy s K:=by
 intro isnil hn;refine IfB.intro (fun h1=>?_) (fun _=>⟨by simp only [List.length_nil];omega,by simpa using h⟩)
 have:s= []:=Yl (hn h1);rw [this] at h;exact h
theorem Zchs {H:Heap} {Z:Nat->Prop} {d:List UInt8} {v:Value} (hz: ∀x,Z x->H x≠none) (hy:Lyd H) (hd:Zb Z H Zby d v) (hl:d.length <= 1000000000):
  FnW Tryz.prog Zlp ⟨[v]⟩ H fun r H'=>Keep Nil H H'∧∃Zn,Zcd H H' Zn∧Zb (Or2 Z Zn) H' Zby d r:=by
 refine (FnQ.runZ (x:=(d,())) Zcfk rfl rfl (Z:=Z) ?_ hz hy.live hy.ok (K:=fun r=>r.1=d) (Zbpj d _ hl rfl)).mono fun r H' hk=>?_;simp only [pksA,pkA,SimL,SimV,and_true];exact hd;obtain ⟨k,y1,Zn,h1,_,hf,h3⟩:=hk;obtain ⟨m,u⟩:=y1;simp only at h1;subst h1;simp only [pksA,pkA,outA,SimV] at h3;exact ⟨k,Zn,hf,h3⟩
theorem Zbpu {Z:Nat->Prop} {H:Heap} {d:List UInt8} {a:Option Addr} {n c:Nat} (h:Zb Z H Zby d (.slice a n c)) {i:Nat} (hi:i<d.length): ∃b o,a=some ⟨b,o,none⟩∧Z b∧H.cell ⟨b,o+i,none⟩=some (.int .u8 ((d[i]).toNat:Int)):=by
 simp only [Zb] at h;obtain ⟨a',n',c',e,hl,_,_,hat⟩:=h;cases e;have hl':d.length=n:=hl;obtain ⟨b,o,rfl,hz,cs,T,fr,hb,hc⟩:=hat (by omega)
 have:=hc i (d[i]) (Yc hi);simp only [Ze,Zb,and_true] at this;obtain ⟨v,h1,rfl,_⟩:=this;refine ⟨b,o,rfl,hz,?_⟩;simp only [Heap.cell,hb];have e:o+i* [Kd.int IntKind.u8].length+0=o+i:=by simp
 rw [e] at h1;exact h1
theorem Zko {Z:Nat->Prop} {H:Heap} {d:List UInt8} {a:Option Addr} {n c:Nat} (h:Zb Z H Zby d (.slice a n c)):n=d.length∧n <= c∧c <= Zw:=by simp only [Zb] at h;obtain ⟨a',n',c',e,hl,h1,h2,_⟩:=h;cases e;exact ⟨hl.symm,h1,h2⟩
end Go.Proofs.YthhcfdpoiganhaaGreat
end
section
namespace Go.Proofs.YthhcfdpoiganhaaGreat
open Go.Sh
theorem Ziv {Z0:Nat->Prop} {H0 H:Heap} (hz0: ∀x,Z0 x->H0 x≠none) {k:Kd} {x:El k} {v:Value} (h:Zb Z0 H0 k x v) (kp:Keep Nil H0 H):Zb Z0 H k x v:=
 Zb.ext (fun b hb=>⟨hb,kp.same b (fun h=>h.elim) (hz0 b hb)⟩) _ _ _ h
theorem Zia {Z0:Nat->Prop} {H0 H:Heap} (hz0: ∀x,Z0 x->H0 x≠none) (kp:Keep Nil H0 H): ∀x,Z0 x->H x≠none:=fun x hx=>kp.live x (hz0 x hx)
theorem Zbma {Z:Nat->Prop} {H:Heap} {d:List UInt8} {a:Option Addr} {n c:Nat} (h:Zb Z H Zby d (.slice a n c)) {l:Nat} (hl:l <= d.length):
  Zb Z H Zby (d.drop l) (.slice (if c=l then a else Option.map (fun a=>Addr.add a (l*1)) a) (n - l) (c - l)):=by
 have h1:=(Zbac (g:=gZ Z) (sz:=1) (ks:=[.int .u8]) (xs:=d) rfl h (Yh d.length)).2 l hl;obtain ⟨hn,_,_⟩:=Zko h;have e:(d.take d.length).drop l=d.drop l:=by rw [Yra]
 have h2:Zb Z H Zby ((d.take d.length).drop l) _:=h1;rw [hn];exact Eq.mp (congrArg (fun z:List UInt8=>Zb Z H Zby z (.slice (if c=l then a else Option.map (fun a=>Addr.add a (l*1)) a) (d.length - l) (c - l))) e) h2
theorem Rd.fin {Z0:Nat->Prop} {H0 H H1:Heap} {b:Nat} {four:Bool} {s:RdS} (hz0: ∀x,Z0 x->H0 x≠none) (k: ∀x,H0 x≠none->H x≠none) (h:Rd Z0 H0 H1 b four s) (c:Calm H H1) {H2:Heap} (hs:Shut H H1 H2):Rd Z0 H0 H2 b four s∧Calm H H2:=by obtain ⟨Zn,vp,ca,cc,oa,oc,seen,v4,vm,h4,h⟩:=h;exact ⟨⟨Zn,vp,ca,cc,oa,oc,seen,v4,vm,h4,h.shut hz0 hs k⟩,Zblf c hs⟩
theorem Rd.keep {Z0:Nat->Prop} {H0 H:Heap} {b:Nat} {four:Bool} {s:RdS} (h:Rd Z0 H0 H b four s):Keep Nil H0 H:=by obtain ⟨Zn,vp,ca,cc,oa,oc,seen,v4,vm,h4,h⟩:=h;exact h.at_.keep
theorem Rd.kept {Z0:Nat->Prop} {H0 H H':Heap} {b:Nat} {four:Bool} {s:RdS} (hz0: ∀x,Z0 x->H0 x≠none) (h:Rd Z0 H0 H b four s) (k:Keep Nil H H'):Rd Z0 H0 H' b four s:=by obtain ⟨Zn,vp,ca,cc,oa,oc,seen,v4,vm,h4,h⟩:=h;exact ⟨Zn,vp,ca,cc,oa,oc,seen,v4,vm,h4,h.kept hz0 k⟩
theorem Zddn {H:Heap} {n:Nat} (hn:H n=none) (o:Obj):Calm H (H.upd n o):=fun x T c hb _ _ _=>hb.same (Sh.upd_ne fun e=>by subst e;exact hb.some hn)
theorem Zpz {H:Heap} {n:Nat} (hn:H n=none) (o:Obj):Keep Nil H (H.upd n o):=(Keep.refl _ _).new hn
theorem newB {H:Heap} {l:List Value} {T:TypeId} {k:Nat->Heap->Prop} (h: ∀n H1,H n=none->Keep Nil H H1->Calm H H1->Blk H1 n T ⟨l⟩->k n H1):NewW H (Obj.cells ⟨l⟩ T) k:=fun n hn=>h n _ hn (Zpz hn _) (Zddn hn _) Blk.upd_eq
theorem Zcwq {Z0:Nat->Prop} {H0 H:Heap} {b:Nat} {four:Bool} {s:RdS} {d:List UInt8} {a:Option Addr} {n c:Nat} (hz0: ∀x,Z0 x->H0 x≠none) (hy:Lyd H0) (hd:Zb Z0 H0 Zby d (.slice a n c)) (hdl:d.length <= 100000) (h:Rd Z0 H0 H b four s):
  FnW Tryz.prog Zwo ⟨[.pointer (some ⟨b,0,none⟩),.slice a n c]⟩ H fun v H'=>∃ok,v= .bool ok∧Calm H H'∧Rd Z0 H0 H' b four (if ok then oneF four 7 d s else s)∧(ok=false->oneF four 7 d s=s.found 1):=by
 obtain ⟨Zn,vp,ca,cc,oa,oc,seen,v4,vm,h4,h⟩:=h;obtain ⟨hn,hnc,hcm⟩:=Zko hd;unfold Zw at hcm;have hkl: ∀x,H0 x≠none->H x≠none:=h.at_.keep.live;have stay: ∀ok,(ok=false->oneF four 7 d s=s.found 1)->∀s',(if ok then oneF four 7 d s else s)=s'->∀H1,Rd Z0 H0 H1 b four s'->Calm H H1->∀H2,Shut H H1 H2->∃ok',Value.bool ok= .bool ok'∧Calm H H2∧Rd Z0 H0 H2 b four (if ok' then oneF four 7 d s else s)∧(ok'=false->oneF four 7 d s=s.found 1):=by intro ok h1 s' h2 H1 h3 h4 H2 hs;obtain ⟨q1,q2⟩:=h3.fin hz0 hkl h4 hs;exact ⟨ok,rfl,q2,by rw [h2];exact q1,h1⟩
 have hR:Rd Z0 H0 H b four s:=⟨Zn,vp,ca,cc,oa,oc,seen,v4,vm,h4,h⟩;have spec:oneF four 7 d s=if d.length=Zdk four+4∧numB (d.take (Zdk four))≠0 then s.put (s.a.origin,s.a.path,s.a.next,s.a.hasMed,s.a.med,s.a.hasLocal,s.a.loc,s.a.atomic,true,u32B (d.take (Zdk four)),u32B (d.drop (Zdk four)),s.a.comms,s.a.others) else s.found 1:=rfl
 have core: ∀size:Nat,size=Zdk four->Zbht b a n c (size:Int) H fun v H1=>∀H2,Shut H H1 H2->∃ok,v= .bool ok∧Calm H H2∧Rd Z0 H0 H2 b four (if ok then oneF four 7 d s else s)∧(ok=false->oneF four 7 d s=s.found 1):=by
  intro size hsz;have hs4:size <= 4:=by rw [hsz];unfold Zdk;split<;>omega
  unfold Zbht;rw [Zh (by omega) (by omega)]
  refine IfB.intro (fun hne=>?_) (fun heq=>?_)
  ·have hne:n≠size+4:=by simp at hne;omega
   refine stay false (fun _=>?_) s rfl H hR (Calm.refl _);rw [spec,if_neg (by rw [← hsz];omega)]
  ·have heq:n=size+4:=by simp at heq;omega
   refine ⟨by omega,by omega,?_⟩
   rw [Int.toNat_natCast];refine ⟨fun k x Hx=>Hx=H∧∃i:Nat,i <= size∧k=size - i∧x=((numB (d.take i):Int),(i:Int),()),size,⟨rfl,0,YI _,rfl,rfl⟩,?_⟩;rintro k x Hx ⟨rfl,i,hi,rfl,rfl⟩ gE;dsimp only;unfold Zbth;have hdk:=Ziv hz0 hd h.at_.keep;refine IfB.intro (fun hlt=>?_) (fun hge=>?_)
   ·have hlt:i<size:=by have:=of_decide_eq_true hlt;omega
    have hid:i<d.length:=by omega
    obtain ⟨db,o,rfl,hzb,hcell⟩:=Zbpu hdk hid;refine NilP.intro ⟨db,o,none⟩ rfl ⟨by omega,by omega,?_⟩
    rw [Int.toNat_natCast];show elemAt _ _ 1 _;rw [Zjk];rw [Yta];refine ⟨_,hcell,by decide,size - (i+1),by omega,rfl,i+1,by omega,rfl,?_⟩
    have hv:=YD d[i];have hnb:numB (d.take i)<16777216:=by
     have h1:=Zbdi (d.take i);have h2:256^(d.take i).length <= 256^3:=YW (by decide) (by rw [Yo];omega)
     omega
    have et:d.take (i+1)=d.take i++[d[i]]:=by rw [YFa,Yc hid];rfl
    rw [et,Zchx];have e8:(2:Int)^(min (8:Int).toNat (IntKind.bits .u32))=256:=by decide
    rw [e8,show (numB (d.take i):Int)*256=((numB (d.take i)*256:Nat):Int) by omega,wu32 (by omega),wu32 (by omega),Zix .u32 _ _ (Zgs (by omega)) (Zgs (by omega)),Ztk _ _ (by omega),wu32 (by omega),Zh (by omega) (by omega)]
    simp
   ·have hge:i=size:=by have:=of_decide_eq_false hge;omega
    subst hge;have hnb:numB (d.take i)<4294967296:=by
     have h1:=Zbdi (d.take i);have h2:256^(d.take i).length <= 256^4:=YW (by decide) (by rw [Yo];omega)
     omega
    refine IfB.intro (fun h0=>?_) (fun h0=>?_)
    ·have h0:numB (d.take i)=0:=by have:=eq_of_beq h0;omega
     refine stay false (fun _=>?_) s rfl Hx hR (Calm.refl _);rw [spec,if_neg (by rw [← hsz];omega)]
    ·have h0:numB (d.take i)≠0:=by intro e;rw [e] at h0;simp at h0
     refine ⟨by omega,by omega,?_⟩
     rw [Int.toNat_natCast];have hdd:=Zbma hdk (l:=i) (by omega)
     refine (Zjw (d:=d.drop i) (Zia hz0 h.at_.keep) (hy.keep h.at_.keep) hdd (by rw [Yq];omega)).mono fun r H3 hr=>?_
     obtain ⟨k3,rfl⟩:=hr;have h3:=h.kept hz0 k3;refine ⟨_,rfl,h3.st 8 (by decide) rfl fun H4 hb4 ho4=>?_⟩
     have q4:=h3.turn hz0 ho4 (s':=s.put (s.a.origin,s.a.path,s.a.next,s.a.hasMed,s.a.med,s.a.hasLocal,s.a.loc,s.a.atomic,true,s.a.makerAS,s.a.maker,s.a.comms,s.a.others)) hb4 rfl rfl h3.at_.path h3.seen h3.p4 h3.m4;have eA:(numB (d.take i):Int)=((u32B (d.take i)).toNat:Int):=by rw [Zyq hnb]
     rw [eA];refine q4.st 9 (by decide) rfl fun H5 hb5 ho5=>?_
     have q5:=q4.turn hz0 ho5 (s':=s.put (s.a.origin,s.a.path,s.a.next,s.a.hasMed,s.a.med,s.a.hasLocal,s.a.loc,s.a.atomic,true,u32B (d.take i),s.a.maker,s.a.comms,s.a.others)) hb5 rfl rfl q4.at_.path q4.seen q4.p4 q4.m4;refine q5.st 10 (by decide) rfl fun H6 hb6 ho6=>?_
     have q6:=q5.turn hz0 ho6 (s':=s.put (s.a.origin,s.a.path,s.a.next,s.a.hasMed,s.a.med,s.a.hasLocal,s.a.loc,s.a.atomic,true,u32B (d.take i),u32B (d.drop i),s.a.comms,s.a.others)) (by
      have e4:((d.drop i).take 4)=d.drop i:=YX (by rw [Yq];omega)
      rw [e4] at hb6;exact hb6) rfl rfl q5.at_.path q5.seen q5.p4 q5.m4
     refine stay true (fun h=>by cases h) _ ?_ H6 ⟨_,_,_,_,_,_,_,_,_,_,q6⟩ ((((Zem k3).trans (h3.calmB ho4)).trans (q4.calmB ho5)).trans (q5.calmB ho6))
     rw [if_pos rfl,spec,if_pos ⟨by rw [← hsz];omega,by rw [← hsz];exact h0⟩,← hsz]
 refine Zdpo b a n c ⟨four,h.get 13 rfl,?_⟩;cases four with
 | true=>exact ifT rfl (core 4 rfl)
 | false=>exact ifF rfl (core 2 rfl)
end Go.Proofs.YthhcfdpoiganhaaGreat
end
section
namespace Go.Proofs.YthhcfdpoiganhaaGreat
open Go.Sh
theorem Zbu {H:Heap} {b:Nat} {T:TypeId} {l:List Value} (h:Blk H b T ⟨l⟩) (j:Nat) {v:Value} (e:l[j]? =some v):H.cell ⟨b,j,none⟩=some v:=by rw [h.cell];simpa using e
def pcV (fl kd:Int) (a:Option Addr) (n c:Nat) (sz:Int):List Value:=[.int .u8 fl,.int .i64 kd,.slice a n c,.int .i64 sz]
abbrev mayR (Z0:Nat->Prop) (H0 H:Heap) (b:Nat) (four:Bool) (kd:Nat) (d:List UInt8) (s:RdS) (w:Nat) (v:Value) (H':Heap):Prop:=
 ∃ok,v= .bool ok∧Calm H H'∧Rd Z0 H0 H' b four (if ok then oneF four kd d s else s)∧(ok=false->oneF four kd d s=s.found w)
theorem mayR.fin {Z0:Nat->Prop} {H0 H H1:Heap} {b:Nat} {four:Bool} {kd:Nat} {d:List UInt8} {s:RdS} {w:Nat} {v:Value} (hz0: ∀x,Z0 x->H0 x≠none) (k: ∀x,H0 x≠none->H x≠none) (h:mayR Z0 H0 H b four kd d s w v H1) {H2:Heap} (hs:Shut H H1 H2):mayR Z0 H0 H b four kd d s w v H2:=by obtain ⟨ok,h1,h2,h3,h4⟩:=h;obtain ⟨q1,q2⟩:=h3.fin hz0 k h2 hs;exact ⟨ok,h1,q2,q1,h4⟩
theorem Zbfl {A:Type} {l:List A} {pre post:List A} {x y:A} {j:Nat} (h:l=pre++x::post) (hj:pre.length=j):l.set j y=pre++y::post:=by
 subst h;rw [Y8a _ _ (by omega),show j - pre.length=0 by omega]
 rfl
theorem Zbqm {s:RdS} {four:Bool} {vp:Value} {ca:Option Addr} {cc:Nat} {oa:Option Addr} {oc:Nat} {seen:List Bool} {v4 vm:Value} {h4:Bool} (hl:seen.length=256):
  (∀v,(Zbg s four vp ca cc oa oc seen v4 vm h4).set 271 v=Zbg s four vp ca cc oa oc seen v vm h4)∧(∀v,(Zbg s four vp ca cc oa oc seen v4 vm h4).set 272 v=Zbg s four vp ca cc oa oc seen v4 v h4)∧(∀v,(Zbg s four vp ca cc oa oc seen v4 vm h4).set 273 (.bool v)=Zbg s four vp ca cc oa oc seen v4 vm v):=by
 have e13:(attV s.a vp ca cc oa oc).length=13:=rfl;refine ⟨fun v=>?_,fun v=>?_,fun v=>?_⟩
 ·rw [Zbfl (pre:=attV s.a vp ca cc oa oc++(.bool four:: .int .i64 (s.worst:Int)::seen.map Value.bool)) (x:=v4) (post:=[vm,.bool h4]) (by simp [Zbg]) (by simp [hl,e13])]
  simp [Zbg]
 ·rw [Zbfl (pre:=attV s.a vp ca cc oa oc++(.bool four:: .int .i64 (s.worst:Int)::(seen.map Value.bool++[v4]))) (x:=vm) (post:=[.bool h4]) (by simp [Zbg]) (by simp [hl,e13])]
  simp [Zbg]
 ·rw [Zbfl (pre:=attV s.a vp ca cc oa oc++(.bool four:: .int .i64 (s.worst:Int)::(seen.map Value.bool++[v4,vm]))) (x:= .bool h4) (post:=[]) (by simp [Zbg]) (by simp [hl,e13])]
  simp [Zbg]
theorem Zddc {Z0:Nat->Prop} {H0 H:Heap} {b:Nat} {four:Bool} {s:RdS} {d:List UInt8} {a:Option Addr} {n c:Nat} (hz0: ∀x,Z0 x->H0 x≠none) (hy:Lyd H0) (hd:Zb Z0 H0 Zby d (.slice a n c)) (hdl:d.length <= 100000) (h:Rd Z0 H0 H b four s) (fl sz:Int) {kd:Nat} (hkd:kd=6∨kd=7∨kd=17∨kd=18) (h6:kd=6->s.a.atomic=false) (h17:kd=17->s.p4=none):
  FnW Tryz.prog Zvt ⟨[.pointer (some ⟨b,0,none⟩),.agg ⟨pcV fl kd a n c sz⟩]⟩ H (mayR Z0 H0 H b four kd d s 1):=by
 obtain ⟨Zn,vp,ca,cc,oa,oc,seen,v4,vm,h4,h⟩:=h;obtain ⟨hn,hnc,hcm⟩:=Zko hd;have hkl: ∀x,H0 x≠none->H x≠none:=h.at_.keep.live;refine Zcmu b fl kd a n c sz (newB fun p H1 hp kp cp hbp=>?_);have q1:=h.kept hz0 kp;have hdk:=Ziv hz0 hd q1.at_.keep;refine ⟨a,n,c,Zbu hbp 2 rfl,kd,Zbu hbp 1 rfl,?_⟩;have done: ∀v H',mayR Z0 H0 H b four kd d s 1 v H'->∀H2,Shut H H' H2->mayR Z0 H0 H b four kd d s 1 v H2:=fun v H' hm H2 hs=>hm.fin hz0 hkl hs;refine IfB.intro (fun e6=>?_) (fun e6=>IfB.intro (fun e7=>?_) fun e7=>IfB.intro (fun e17=>?_) fun e17=>?_)
 ·
  have e6:kd=6:=by have:=eq_of_beq e6;omega
  subst e6;refine q1.st 7 (by decide) rfl fun H2 hb2 ho2=>?_
  have at0:=h6 rfl;have q2:=q1.turn hz0 ho2 (s':=s.put (s.a.origin,s.a.path,s.a.next,s.a.hasMed,s.a.med,s.a.hasLocal,s.a.loc,((n:Int)==0),s.a.hasMaker,s.a.makerAS,s.a.maker,s.a.comms,s.a.others)) hb2 rfl rfl q1.at_.path q1.seen q1.p4 q1.m4;refine ⟨_,q2.get 7 rfl,done _ _ ⟨((n:Int)==0),rfl,cp.trans (q1.calmB ho2),?_,fun h0=>?_⟩⟩
  ·have spec:oneF four 6 d s=if d.length=0 then s.put (s.a.origin,s.a.path,s.a.next,s.a.hasMed,s.a.med,s.a.hasLocal,s.a.loc,true,s.a.hasMaker,s.a.makerAS,s.a.maker,s.a.comms,s.a.others) else s.found 1:=rfl
   cases hz:((n:Int)==0) with
   | true=>
    have:d.length=0:=by have:=eq_of_beq hz;omega
    rw [if_pos rfl,spec,if_pos this];rw [hz] at q2;exact ⟨_,_,_,_,_,_,_,_,_,_,q2⟩
   | false=>
    rw [if_neg (by simp)]
    rw [hz] at q2;have e:s.put (s.a.origin,s.a.path,s.a.next,s.a.hasMed,s.a.med,s.a.hasLocal,s.a.loc,false,s.a.hasMaker,s.a.makerAS,s.a.maker,s.a.comms,s.a.others)=s:=by rw [← at0];rfl
    rw [e] at q2;exact ⟨_,_,_,_,_,_,_,_,_,_,q2⟩
  ·have: ¬d.length=0:=fun e=>by rw [hn,e] at h0;simp at h0
   show oneF four 6 d s=_;unfold oneF;exact if_neg this
 ·have e7:kd=7:=by have:=eq_of_beq e7;omega
  subst e7;refine (Zcwq hz0 hy hd hdl ⟨_,_,_,_,_,_,_,_,_,_,q1⟩).mono fun v H3 hm=>?_;obtain ⟨ok,rfl,c3,r3,h3⟩:=hm;exact ⟨ok,rfl,done _ _ ⟨ok,rfl,cp.trans c3,r3,h3⟩⟩
 ·have e17:kd=17:=by have:=eq_of_beq e17;omega
  subst e17;have p0:=h17 rfl;have spec:oneF four 17 d s=if four then s else match Zew true d with | some p=>⟨s.a,s.worst,s.seen,some p,s.m4⟩ | none=>s.found 1:=rfl
  refine ⟨four,q1.get 13 rfl,?_⟩;cases four with
  | true=>exact ifT rfl (done _ _ ⟨true,rfl,cp,by rw [if_pos rfl,spec];exact ⟨_,_,_,_,_,_,_,_,_,_,q1⟩,fun h=>by cases h⟩)
  | false=>
   refine ifF rfl ?_;refine (Zcdb (d:=d) (four:=true) (Zia hz0 q1.at_.keep) (hy.keep q1.at_.keep) hdk (by omega)).mono fun v H4 hm=>?_
   obtain ⟨k4,Z1,pp,vq,e,hf,rfl,hpp,hr⟩:=hm;have q4:=q1.more hz0 k4 hf;have hpp':Zb (Or2 Z0 (Or2 Zn Z1)) H4 Zfn pp vq:=Zb.ext (fun x hx=>⟨hx.elim .inl fun h=> .inr (.inr h),rfl⟩) _ _ _ hpp;obtain ⟨pa,pn,pc,rfl⟩: ∃pa pn pc,vq= .slice pa pn pc:=by simp only [Zb] at hpp;obtain ⟨pa,pn,pc,e,_⟩:=hpp;exact ⟨pa,pn,pc,e⟩
   refine ⟨pa,pn,pc,e,rfl,q4.st 271 (by decide) rfl fun H5 hb5 ho5=>?_⟩
   rw [(Zbqm q4.seen.1).1] at hb5;have k5:Keep (fun x=>x=b) H4 H5:=q4.keepB hb5 ho5;have q5:RdX Z0 H0 H5 b false (Or2 Zn Z1) vp ca cc oa oc seen (.slice pa pn pc) vm false { s with p4:=none }:=by
    have hb5':Blk H5 b Zea ⟨Zbg { s with p4:=none } false vp ca cc oa oc seen (.slice pa pn pc) vm h4⟩:=hb5
    have e4:h4=false:=by have:=q4.p4;unfold P4 at this;rw [p0] at this;exact this.1
    rw [e4] at hb5';exact q4.turn hz0 ho5 hb5' rfl rfl q4.at_.path q4.seen ⟨rfl,_,_,_,rfl⟩ q4.m4
   have es:({ s with p4:=none }:RdS)=s:=by rw [← p0]
   rw [es] at q5;refine q5.st 273 (by decide) rfl fun H6 hb6 ho6=>?_
   rw [(Zbqm q5.seen.1).2.2] at hb6;have c6:Calm H H6:=((cp.trans (Zem k4)).trans (q4.calmB ho5)).trans (q5.calmB ho6);have hpp5:Zb (Or2 Z0 (Or2 Zn Z1)) H5 Zfn pp (.slice pa pn pc):=Zb.ext (fun x hx=>⟨hx,ho5 x fun e=>by
    subst e;rcases hx with hx | hx;exact hz0 x hx q4.at_.bn
    ·exact q4.at_.bz hx⟩) _ _ _ hpp'
   refine ⟨_,Zbu hb6 273 (by rw [show (273:Nat)=271+2 from rfl,Zrw q5.seen.1];rfl),done _ _ ⟨(e==0),rfl,c6,?_,fun h0=>?_⟩⟩
   ·rcases hr with ⟨hr,rfl⟩ | ⟨hr,rfl,rfl⟩
    ·rw [if_pos (by rfl),spec,if_neg (by simp),hr]
     exact ⟨_,_,_,_,_,_,_,_,_,_,q5.turn hz0 ho6 (s':=⟨s.a,s.worst,s.seen,some pp,s.m4⟩) hb6 rfl rfl q5.at_.path q5.seen ⟨rfl,hpp5⟩ q5.m4⟩
    ·rw [if_neg (by simp)]
     exact ⟨_,_,_,_,_,_,_,_,_,_,q5.turn hz0 ho6 (s':=s) hb6 rfl rfl q5.at_.path q5.seen (by unfold P4;rw [p0];exact ⟨rfl,_,_,_,rfl⟩) q5.m4⟩
   rcases hr with ⟨hr,rfl⟩ | ⟨hr,rfl,rfl⟩;simp at h0;rw [spec,if_neg (by simp),hr]
 ·have e18:kd=18:=by
   have h1: ¬((kd:Int)=6):=fun e=>by rw [e] at e6;simp at e6
   have h2: ¬((kd:Int)=7):=fun e=>by rw [e] at e7;simp at e7
   have h3: ¬((kd:Int)=17):=fun e=>by rw [e] at e17;simp at e17
   omega
  subst e18;have spec:oneF four 18 d s=if four then s else if d.length=8∧numB (d.take 4)≠0 then ⟨s.a,s.worst,s.seen,s.p4,some (u32B (d.take 4),u32B (d.drop 4))⟩ else s.found 1:=rfl
  refine ⟨four,q1.get 13 rfl,?_⟩;cases four with
  | true=>exact ifT rfl (done _ _ ⟨true,rfl,cp,by rw [if_pos rfl,spec];exact ⟨_,_,_,_,_,_,_,_,_,_,q1⟩,fun h=>by cases h⟩)
  | false=>
   refine ifF rfl (IfB.intro (fun hne=>?_) fun heq=>?_)
   ·refine ifT rfl (done _ _ ⟨false,rfl,cp,by rw [if_neg (by simp)];exact ⟨_,_,_,_,_,_,_,_,_,_,q1⟩,fun _=>?_⟩)
    rw [spec,if_neg (by simp),if_neg (fun h=>by rw [hn,h.1] at hne;simp at hne)]
   ·have heq:d.length=8:=by simp at heq;omega
    refine (Zjw (d:=d) (Zia hz0 q1.at_.keep) (hy.keep q1.at_.keep) hdk (by omega)).mono fun v H9 hm=>?_
    obtain ⟨k9,rfl⟩:=hm;have q9:=q1.kept hz0 k9;have hlt:numB (d.take 4)<4294967296:=Zcac (by rw [Yo];omega)
    refine ⟨_,rfl,IfB.intro (fun hz=>?_) fun hz=>?_⟩
    ·refine done _ _ ⟨false,rfl,cp.trans (Zem k9),by rw [if_neg (by simp)];exact ⟨_,_,_,_,_,_,_,_,_,_,q9⟩,fun _=>?_⟩
     have hz:numB (d.take 4)=0:=by have:=eq_of_beq hz;rw [Zyq hlt] at this;omega
     rw [spec,if_neg (by simp),if_neg (fun h=>h.2 hz)]
    ·have hz:numB (d.take 4)≠0:=fun e=>by rw [Zyq hlt,e] at hz;simp at hz
     refine q9.st 272 (by decide) rfl fun H10 hb10 ho10=>?_
     rw [(Zbqm q9.seen.1).2.1] at hb10;have hd9:Zb (Or2 Z0 Zn) H9 Zby d (.slice a n c):=Zb.ext (fun x hx=>⟨.inl hx,rfl⟩) _ _ _ (Ziv hz0 hd q9.at_.keep);refine done _ _ ⟨true,rfl,(cp.trans (Zem k9)).trans (q9.calmB ho10),?_,fun h=>by cases h⟩
     rw [if_pos rfl,spec,if_neg (by simp),if_pos ⟨heq,hz⟩]
     exact ⟨_,_,_,_,_,_,_,_,_,_,q9.turn hz0 ho10 (s':=⟨s.a,s.worst,s.seen,s.p4,some (u32B (d.take 4),u32B (d.drop 4))⟩) hb10 rfl rfl q9.at_.path q9.seen q9.p4 ⟨d,heq,hd9,rfl,rfl⟩⟩
end Go.Proofs.YthhcfdpoiganhaaGreat
end
section
namespace Go.Proofs.YthhcfdpoiganhaaGreat
open Go.Sh
theorem Zcmd (a b:List Seg):cnt (Zjo a b) <= cnt a+cnt b:=by
 unfold Zjo;split
 ·rename_i l r rest hl;split
  ·have e:a=a.dropLast++[l]:=by rw [List.getLast?_eq_some_iff] at hl;obtain ⟨ys,rfl⟩:=hl;simp
   have h1:cnt a=cnt a.dropLast+l.2.length:=by have:=Zbxm a.dropLast l;rw [← e] at this;exact this
   have h2: ∀(x y:List Seg),cnt (x++y)=cnt x+cnt y:=fun x y=>by simp [cnt]
   rw [h2,h1];simp [cnt];omega
  simp [cnt]
 simp [cnt]
theorem Zcsz (p q:List Seg):cnt (Zei p q) <= cnt p+cnt q:=by unfold Zei;split;omega;have h1:=Zcmd (Zct p (lenP p - lenP q)) q;have h2:=(Zbeg p (lenP p - lenP q)).2;omega
theorem Zccn {p:List Seg} (h:Zbh p=true):p.length <= cnt p∧cnt p <= 64:=by
 unfold Zbh at h;simp only [Ya] at h;refine ⟨?_,of_decide_eq_true h.2⟩;have h1:=h.1;clear h;induction p with
 | nil=>simp [cnt]
 | cons s p ih=>
  simp only [List.all_cons,Ya] at h1;have h2:=ih h1.2;have h3:0<s.2.length:=by have:=h1.1;unfold Zfm at this;simp only [Ya] at this;exact of_decide_eq_true this.1.1
  simp only [List.length_cons,cnt,YG,List.sum_cons] at h2 ⊢;omega
theorem Zckd {H H':Heap} {b:Nat} (hb:H b≠none) (k:Keep Nil H H'):Zes [b] H H':=fun x hx=>by simp only [YB] at hx;subst hx;obtain ⟨o,ho⟩:=YR.1 hb;exact ⟨⟨o,ho⟩,k.same _ (fun h=>h.elim) hb⟩
theorem Zdnd {Z0:Nat->Prop} {H0 H:Heap} {b:Nat} {four:Bool} {s:RdS} (hz0: ∀x,Z0 x->H0 x≠none) (hy:Lyd H0) (h:Rd Z0 H0 H b four s) (hp:Zbh s.a.path=true) (hq: ∀q,s.p4=some q->Zbh q=true):
  FnW Tryz.prog Zzs ⟨[.pointer (some ⟨b,0,none⟩)]⟩ H fun v H'=>v= .tuple ⟨[]⟩∧Rd Z0 H0 H' b four (s.put (Zdt s))∧Calm H H':=by
 obtain ⟨Zn,vp,ca,cc,oa,oc,seen,v4,vm,h4,h⟩:=h;have hkl: ∀x,H0 x≠none->H x≠none:=h.at_.keep.live;have fin: ∀(s':RdS),s'=s.put (Zdt s)->∀H1,Rd Z0 H0 H1 b four s'->Calm H H1->∀H2,Shut H H1 H2->Value.tuple ⟨[]⟩= .tuple ⟨[]⟩∧Rd Z0 H0 H2 b four (s.put (Zdt s))∧Calm H H2:=by rintro s' rfl H1 h1 c1 H2 hs;exact ⟨rfl,h1.fin hz0 hkl c1 hs⟩
 have spec:Zdt s=if s.a.hasMaker=true∧s.a.makerAS≠23456 then s.a else
   (s.a.origin,(match s.p4 with | some q=>if Zbh (Zei s.a.path q)=true then Zei s.a.path q else s.a.path | none=>s.a.path),s.a.next,s.a.hasMed,s.a.med,s.a.hasLocal,s.a.loc,s.a.atomic,s.a.hasMaker,(match s.a.hasMaker,s.m4 with | true,some m=>m | _,_=>(s.a.makerAS,s.a.maker)).1,(match s.a.hasMaker,s.m4 with | true,some m=>m | _,_=>(s.a.makerAS,s.a.maker)).2,s.a.comms,s.a.others):=rfl
 refine Zcxl b ⟨_,h.get 8 rfl,?_⟩;have j2: ∀(mm:UInt32×UInt32) (H7:Heap),¬(s.a.hasMaker=true∧s.a.makerAS≠23456)->mm=(match s.a.hasMaker,s.m4 with | true,some m=>m | _,_=>(s.a.makerAS,s.a.maker))->(∃Zn vp ca cc oa oc seen v4 vm h4,RdX Z0 H0 H7 b four Zn vp ca cc oa oc seen v4 vm h4 (s.put (s.a.origin,s.a.path,s.a.next,s.a.hasMed,s.a.med,s.a.hasLocal,s.a.loc,s.a.atomic,s.a.hasMaker,mm.1,mm.2,s.a.comms,s.a.others)))->Calm H H7->
   Zbcu b H7 fun v H1=>∀H2,Shut H H1 H2->v= .tuple ⟨[]⟩∧Rd Z0 H0 H2 b four (s.put (Zdt s))∧Calm H H2:=by
  intro mm H7 hn hm hx c7;obtain ⟨Zn,vp,ca,cc,oa,oc,seen,v4,vm,h4,x7⟩:=hx;unfold Zbcu;have p4:=x7.p4;refine ⟨h4,x7.get 273 (by rw [show (273:Nat)=271+2 from rfl,Zrw x7.seen.1];rfl),?_⟩
  rw [if_neg hn,← hm] at spec;cases hp4:s.p4 with
  | none=>
   have e4:(s.put (s.a.origin,s.a.path,s.a.next,s.a.hasMed,s.a.med,s.a.hasLocal,s.a.loc,s.a.atomic,s.a.hasMaker,mm.1,mm.2,s.a.comms,s.a.others)).p4=none:=hp4;rw [e4] at p4;rw [p4.1];rw [hp4] at spec;refine ifT rfl (fin _ ?_ H7 ⟨_,_,_,_,_,_,_,_,_,_,x7⟩ c7);rw [spec]
  | some q=>
   have e4:(s.put (s.a.origin,s.a.path,s.a.next,s.a.hasMed,s.a.med,s.a.hasLocal,s.a.loc,s.a.atomic,s.a.hasMaker,mm.1,mm.2,s.a.comms,s.a.others)).p4=some q:=hp4;rw [e4] at p4;rw [p4.1];rw [hp4] at spec;simp only at spec;refine ifF rfl ?_;obtain ⟨pa,pn,pc,rfl⟩: ∃pa pn pc,vp= .slice pa pn pc:=by have:=x7.at_.path;simp only [Zb] at this;obtain ⟨pa,pn,pc,e,_⟩:=this;exact ⟨pa,pn,pc,e⟩
   obtain ⟨qa,qn,qc,rfl⟩: ∃qa qn qc,v4= .slice qa qn qc:=by have:=p4.2;simp only [Zb] at this;obtain ⟨pa,pn,pc,e,_⟩:=this;exact ⟨pa,pn,pc,e⟩
   have l1:=Zccn hp;have l2:=Zccn (hq q hp4);refine ⟨pa,pn,pc,x7.get 1 rfl,qa,qn,qc,x7.get 271 (by rw [show (271:Nat)=271+0 from rfl,Zrw x7.seen.1];rfl),?_⟩
   refine (Zcmy (p:=s.a.path) (q:=q) (x7.at_.zlive hz0) (hy.keep x7.at_.keep) x7.at_.path p4.2 (by omega) (by omega)).mono fun v H8 hv=>?_
   obtain ⟨k8,Z1,hf,hmg⟩:=hv;have x8:=x7.more hz0 k8 hf;obtain ⟨ma,mn,mc,rfl⟩: ∃qa qn qc,v= .slice qa qn qc:=by have:=hmg;simp only [Zb] at this;obtain ⟨pa,pn,pc,e,_⟩:=this;exact ⟨pa,pn,pc,e⟩
   refine ⟨ma,mn,mc,rfl,?_⟩;have hmg':Zb (Or2 Z0 (Or2 Zn Z1)) H8 Zfn (Zei s.a.path q) (.slice ma mn mc):=Zb.ext (fun x hx=>⟨by
    rcases hx with (hx | hx) | hx;exact .inl hx;exact .inr (.inl hx)
    ·exact .inr (.inr hx),rfl⟩) _ _ _ hmg
   have hml:(Zei s.a.path q).length <= 9223372036854775807:=by have:=Zb.wf _ _ _ hmg';simp only [WfE] at this;exact this.1
   have hmc:=Zcsz s.a.path q;refine (Zcqd (p:=Zei s.a.path q) (x8.at_.zlive hz0) (hy.keep x8.at_.keep) hmg' hml (by omega)).mono fun v H9 hv=>?_
   obtain ⟨k9,rfl⟩:=hv;have x9:=x8.kept hz0 k9;have hmg9:Zb (Or2 Z0 (Or2 Zn Z1)) H9 Zfn (Zei s.a.path q) (.slice ma mn mc):=Zb.ext (fun x hx=>⟨hx,k9.same x (fun h=>h.elim) (x8.at_.zlive hz0 x hx)⟩) _ _ _ hmg';refine ⟨_,rfl,?_⟩;have c9:=(c7.trans (Zem k8)).trans (Zem k9);cases hok:Zbh (Zei s.a.path q) with
   | true=>
    rw [hok] at spec;refine ifT rfl (x9.st 1 (by decide) rfl fun H10 hb10 ho10=>?_)
    refine fin (s.put (s.a.origin,Zei s.a.path q,s.a.next,s.a.hasMed,s.a.med,s.a.hasLocal,s.a.loc,s.a.atomic,s.a.hasMaker,mm.1,mm.2,s.a.comms,s.a.others)) ?_ H10 ⟨_,_,_,_,_,_,_,_,_,_,x9.turn hz0 ho10 hb10 rfl rfl hmg9 x9.seen x9.p4 x9.m4⟩ (c9.trans (x9.calmB ho10));rw [spec];rfl
   | false=>
    rw [hok] at spec;refine ifF rfl (fin _ ?_ H9 ⟨_,_,_,_,_,_,_,_,_,_,x9⟩ c9);rw [spec];rfl
 have j0: ∀x15:Bool,x15=decide (s.a.hasMaker=true∧s.a.makerAS≠23456)->Zwk b x15 H fun v H1=>∀H2,Shut H H1 H2->v= .tuple ⟨[]⟩∧Rd Z0 H0 H2 b four (s.put (Zdt s))∧Calm H H2:=by
  rintro x15 rfl;unfold Zwk;refine IfB.intro (fun ht=>?_) (fun hf=>?_);have ht:=of_decide_eq_true ht;rw [if_pos ht] at spec;exact fin s (by rw [spec];rfl) H ⟨_,_,_,_,_,_,_,_,_,_,h⟩ (Calm.refl _)
  ·have hn:=of_decide_eq_false hf;refine ⟨_,h.get 8 rfl,?_⟩;have m4:=h.m4;have same: ∀mm:UInt32×UInt32,mm=(s.a.makerAS,s.a.maker)->s.put (s.a.origin,s.a.path,s.a.next,s.a.hasMed,s.a.med,s.a.hasLocal,s.a.loc,s.a.atomic,s.a.hasMaker,mm.1,mm.2,s.a.comms,s.a.others)=s:=by rintro mm rfl;rfl
   refine IfB.intro (fun hmk=>?_) (fun hmk=>?_)
   ·cases hm4:s.m4 with
    | none=>
     rw [hm4] at m4;have m4:vm= .slice none 0 0:=m4;subst m4;refine ⟨none,0,0,h.get 272 (by rw [show (272:Nat)=271+1 from rfl,Zrw h.seen.1];rfl),?_⟩
     unfold Zqt;refine ifF rfl (j2 (s.a.makerAS,s.a.maker) H hn (by rw [hm4];cases s.a.hasMaker<;>rfl) ?_ (Calm.refl _))
     rw [same _ rfl];exact ⟨_,_,_,_,_,_,_,_,_,_,h⟩
    | some m=>
     rw [hm4] at m4;obtain ⟨d,hd8,hdc,e1,e2⟩:=m4;obtain ⟨da,dn,dc,rfl⟩: ∃qa qn qc,vm= .slice qa qn qc:=by have:=hdc;simp only [Zb] at this;obtain ⟨pa,pn,pc,e,_⟩:=this;exact ⟨pa,pn,pc,e⟩
     obtain ⟨hdn,hdnc,_⟩:=Zko hdc;obtain ⟨db,o,rfl,_,_⟩:=Zbpu hdc (i:=0) (by omega)
     have c272:=h.get 272 (v:= .slice (some ⟨db,o,none⟩) dn dc) (by rw [show (272:Nat)=271+1 from rfl,Zrw h.seen.1];rfl)
     refine ⟨_,dn,dc,c272,?_⟩;unfold Zqt;refine ifT rfl ⟨[b],fun x hx=>?_,_,dn,dc,c272,by simp,_,dn,dc,c272,by omega,by omega,?_⟩
     simp only [YB] at hx;subst hx;exact YR.1 h.blk.some;refine (Zjw (d:=d) (h.at_.zlive hz0) (hy.keep h.at_.keep) hdc (by omega)).mono fun v H3 hv=>?_
     obtain ⟨k3,rfl⟩:=hv;have x3:=h.kept hz0 k3;have hd3:Zb (Or2 Z0 Zn) H3 Zby d (.slice (some ⟨db,o,none⟩) dn dc):=Zb.ext (fun x hx=>⟨hx,k3.same x (fun h=>h.elim) (h.at_.zlive hz0 x hx)⟩) _ _ _ hdc;refine ⟨_,rfl,Zckd h.blk.some k3,?_⟩;have hdd:=Zbma hd3 (l:=4) (by omega)
     refine (Zjw (d:=d.drop 4) (x3.at_.zlive hz0) (hy.keep x3.at_.keep) hdd (by rw [Yq];omega)).mono fun v H4 hv=>?_
     obtain ⟨k4,rfl⟩:=hv;have x4:=x3.kept hz0 k4;refine ⟨_,rfl,Zckd h.blk.some (k3.trans k4),?_⟩;refine x4.st 9 (by decide) rfl fun H5 hb5 ho5=>?_
     have x5:=x4.turn hz0 ho5 (s':=s.put (s.a.origin,s.a.path,s.a.next,s.a.hasMed,s.a.med,s.a.hasLocal,s.a.loc,s.a.atomic,s.a.hasMaker,u32B (d.take 4),s.a.maker,s.a.comms,s.a.others)) hb5 rfl rfl x4.at_.path x4.seen x4.p4 x4.m4;refine x5.st 10 (by decide) rfl fun H6 hb6 ho6=>?_
     have e4:(d.drop 4).take 4=d.drop 4:=YX (by rw [Yq];omega)
     rw [e4] at hb6;have x6:=x5.turn hz0 ho6 (s':=s.put (s.a.origin,s.a.path,s.a.next,s.a.hasMed,s.a.med,s.a.hasLocal,s.a.loc,s.a.atomic,s.a.hasMaker,u32B (d.take 4),u32B (d.drop 4),s.a.comms,s.a.others)) hb6 rfl rfl x5.at_.path x5.seen x5.p4 x5.m4;refine j2 (u32B (d.take 4),u32B (d.drop 4)) H6 hn ?_ ⟨_,_,_,_,_,_,_,_,_,_,x6⟩ ((((Zem k3).trans (Zem k4)).trans (x4.calmB ho5)).trans (x5.calmB ho6));rw [hm4,e1,e2];have hmk':s.a.hasMaker=true:=hmk;rw [hmk']
   unfold Zqt;refine ifF rfl (j2 (s.a.makerAS,s.a.maker) H hn ?_ ?_ (Calm.refl _));have hmk':s.a.hasMaker=false:=hmk;rw [hmk'];rw [same _ rfl];exact ⟨_,_,_,_,_,_,_,_,_,_,h⟩
 refine IfB.intro (fun hmk=>⟨_,h.get 9 rfl,j0 _ ?_⟩) (fun hmk=>j0 _ ?_)
 ·have hmk':s.a.hasMaker=true:=hmk;rw [hmk'];simp only [true_and];have e:((s.a.makerAS.toNat:Int)=23456)↔s.a.makerAS=23456:=by constructor;intro h;apply YWa.1;show s.a.makerAS.toNat=23456;omega;intro h;rw [h];rfl
  by_cases e2:s.a.makerAS=23456
  ·rw [show ((s.a.makerAS.toNat:Int) !=23456)=false from by simp [bne,e.2 e2]]
   simp [e2]
  ·rw [show ((s.a.makerAS.toNat:Int) !=23456)=true from by simp only [bne,YF];exact beq_eq_false_iff_ne.2 (fun h=>e2 (e.1 h))]
   simp [e2]
 have hmk':s.a.hasMaker=false:=hmk;rw [hmk'];simp
end Go.Proofs.YthhcfdpoiganhaaGreat
end
section
set_option maxRecDepth 100000
namespace Go.Proofs.YthhcfdpoiganhaaGreat
open Go.Sh
theorem put2 {ρ:Env} {d1 d2:Tmp} {v1 v2:Value} (h1:ρ d1=v1) (h2:ρ d2=v2):put (put ρ (some d1) v1) (some d2) v2=ρ:=by rw [Zjj h1,Zjj h2]
theorem Zcbo {H0 H H2:Heap} {b:Nat} {c:Array Value} {T:TypeId} {fr:Nat×Nat} (h:H b=some (.cells c T fr)) (hs:Shut H0 H H2):H2 b=some (.cells c T fr):=by rcases hs b with e | ⟨_,e,_⟩;rw [e];exact h;rw [h] at e;cases e
theorem Zclz {H:Heap} {a:Option Addr} {n c:Nat} {k:Int} (hk:1 <= k):FnW Tryz.prog Znx ⟨[.slice a n c,.int .i64 k]⟩ H fun v H'=>∃b1 b2 T1 T2,v= .func (.func Zid) #[] ⟨[Zdg b1,Zdg b2]⟩∧H b1=none∧H b2=none∧b1≠b2∧Keep Nil H H'∧H' b1=some (.cells ⟨[.slice a n c]⟩ T1 (0,0))∧H' b2=some (.cells ⟨[.int .i64 k]⟩ T2 (0,0)):=by
 refine FnW.of_code Zcwn (by kernel_rfl) ?_
 have e:Zg Tryz.f116= .seq (cL (Zg Tryz.f116)) (.seq (.seq (cL (cL (cR (Zg Tryz.f116)))) (cR (cL (cR (Zg Tryz.f116))))) (cR (cR (Zg Tryz.f116)))):=by kernel_rfl
 rw [e];generalize hR:(fun v H'=>∀H'',Shut H H' H''->∃b1 b2 T1 T2,v=Value.func (.func Zid) #[] ⟨[Zdg b1,Zdg b2]⟩∧H b1=none∧H b2=none∧b1≠b2∧Keep Nil H H''∧H'' b1=some (.cells ⟨[.slice a n c]⟩ T1 (0,0))∧H'' b2=some (.cells ⟨[.int .i64 k]⟩ T2 (0,0)))=R
 let X:Value->Value->Heap->Prop:=fun v2 v3 H'=>∃b1 b2 T1 T2,v2= .pointer (some ⟨b1,0,none⟩)∧v3= .pointer (some ⟨b2,0,none⟩)∧H b1=none∧H b2=none∧b1≠b2∧Keep Nil H H'∧H' b1=some (.cells ⟨[.slice a n c]⟩ T1 (0,0))∧H' b2=some (.cells ⟨[.int .i64 k]⟩ T2 (0,0))
 refine Zmj (K:=fun ρ' H'=>X (ρ' 2) (ρ' 3) H') ?_ ?_
 ·have h:=Zctk (env0 [.slice a n c,.int .i64 k]) a n c k H X R;rw [put2 (ρ:=env0 [.slice a n c,.int .i64 k]) (d1:=0) (v1:= .slice a n c) (d2:=1) (v2:= .int .i64 k) rfl rfl] at h;refine Eq.mp h ?_;refine fun b1 h1 b2 h2=>⟨b1,b2,Zmn,Zjc,rfl,rfl,h1,?_,?_,(Zpz h1 _).trans (Zpz h2 _),?_,Sh.upd_eq⟩;exact (Zpz h1 (.cells ⟨[.slice a n c]⟩ _)).free h2;intro e;subst e;rw [Sh.upd_eq] at h2;cases h2
  ·rw [Sh.upd_ne (fun e=>by subst e;rw [Sh.upd_eq] at h2;cases h2)]
   exact Sh.upd_eq
 ·rintro ρ1 H1 ⟨b1,b2,T1,T2,e2,e3,h1,h2,hne,kk,c1,c2⟩;refine Zmj (K:=fun ρ' H'=>ρ' 2= .pointer (some ⟨b1,0,none⟩)∧ρ' 3= .pointer (some ⟨b2,0,none⟩)∧H'=H1) ?_ ?_
  ·refine Zmj (K:=fun ρ' H'=>ρ' 2= .pointer (some ⟨b1,0,none⟩)∧ρ' 3= .pointer (some ⟨b2,0,none⟩)∧ρ' 6= .bool false∧H'=H1) ?_ ?_
   ·have h:=Zdea ρ1 (.pointer (some ⟨b1,0,none⟩)) b2 H1 (fun v2 v3 v6 H'=>v2= .pointer (some ⟨b1,0,none⟩)∧v3= .pointer (some ⟨b2,0,none⟩)∧v6= .bool false∧H'=H1) R;rw [put2 e2 e3] at h;refine Zd.mono _ (fun e ρ' H' he=>?_) _ _ (Eq.mp h ?_)
    ·cases e<;>simp only [Zev] at he ⊢ <;>first | exact he.elim | exact he
    refine ⟨k,Zjn c2,rfl,rfl,?_,rfl⟩;rw [decide_eq_false (by omega)]
   ·rintro ρ2 H2 ⟨q1,q2,q3,rfl⟩;obtain ⟨x,ec⟩:=Zcna (t:=6) (c:=cR (cL (cR (Zg Tryz.f116)))) (by kernel_rfl)
    rw [ec];simp only [Zd,ev,q3];exact ⟨q1,q2,rfl⟩
  ·rintro ρ2 H2 ⟨q1,q2,rfl⟩;have h:=Zdic ρ2 b1 b2 H2 (fun _=>False) R;rw [put2 q1 q2] at h;refine Zd.mono _ (fun e ρ' H' he=>?_) _ _ (Eq.mp h ?_)
   ·cases e<;>simp only [Zev] at he ⊢ <;>first | exact he.elim | exact he
   rw [← hR];exact fun H'' hs=>⟨b1,b2,T1,T2,rfl,h1,h2,hne,Zln kk hs,Zcbo c1 hs,Zcbo c2 hs⟩
section
variable {Z0:Nat->Prop} {H0 H:Heap} {b:Nat} {four:Bool} {Zn:Nat->Prop} {p:List Seg} {vp:Value} {cs:List UInt32} {ca:Option Addr} {cc:Nat} {os:List Raw} {oa:Option Addr} {oc:Nat} {seen:List Bool} {v4 vm:Value} {h4:Bool} {s:RdS}
theorem AtI.apart (h:AtI Z0 H0 H b Zn p vp cs ca cc os oa oc) {m:Nat} (h1:ca=some ⟨m,0,none⟩):oa≠some ⟨m,0,none⟩:=fun h2=>by obtain ⟨c1,q1⟩:=h.liveC m h1;obtain ⟨c2,q2⟩:=h.liveO m h2;unfold Blk at q1 q2;rw [q1] at q2;cases q2
theorem AtI.grow (h:AtI Z0 H0 H b Zn p vp cs ca cc os oa oc) (hz0: ∀x,Z0 x->H0 x≠none) {H':Heap} (k:Keep (fun x=>ca=some ⟨x,0,none⟩) H H') {x:UInt32} {ca':Option Addr} {cc':Nat} (ho:Sh.Own H0 H' ca' (cs.length+1) cc' 1 Zdm ((cs.map fun x=>Value.int .u32 (x.toNat:Int))++[.int .u32 (x.toNat:Int)]))
  (hnew: ∀m,ca'=some ⟨m,0,none⟩->ca=some ⟨m,0,none⟩∨H m=none) (hcc:cc' <= Zw):AtI Z0 H0 H' b Zn p vp (cs++[x]) ca' cc' os oa oc:=by
 have hS: ∀x,ca=some ⟨x,0,none⟩->H0 x=none∧¬Zn x∧oa≠some ⟨x,0,none⟩:=fun x hx=>⟨h.comms.free hx,h.cz x hx,h.apart hx⟩;have hz: ∀x,Or2 Z0 Zn x->Or2 Z0 Zn x∧H' x=H x:=fun x hx=>⟨hx,k.same x (fun hs=>by
  obtain ⟨h1,h2,_⟩:=hS x hs;rcases hx with hx | hx;exact hz0 x hx h1
  ·exact h2 hx) (h.zlive hz0 x hx)⟩
 refine ⟨Zii h.keep k fun x hx=>(hS x hx).1,h.new.later k fun x hx hs=>(hS x hs).2.1 hx,h.bn,h.bz,Zb.ext hz _ _ _ h.path,by simpa using ho,fun m hm hzm=>?_,hcc,?_,h.oz,h.olt⟩
 rcases hnew m hm with h1 | h1;exact h.cz m h1 hzm;exact (h.new m hzm).2.1 h1;obtain ⟨xs,h1,h2⟩:=h.others;exact ⟨xs,Zlk h1 k fun x hx=>(hS x hx).2.2,fun i r hr=>Ze.ext hz _ _ _ (h2 i r hr)⟩
theorem RdX.agree (h:RdX Z0 H0 H b four Zn vp ca cc oa oc seen v4 vm h4 s) {H':Heap} (ha: ∀x,H x≠none->(x=b∨ca=some ⟨x,0,none⟩∨oa=some ⟨x,0,none⟩∨Zn x∨H0 x≠none)->H' x=H x) (hl: ∀x,H x≠none->H' x≠none) (hz0: ∀x,Z0 x->H0 x≠none):RdX Z0 H0 H' b four Zn vp ca cc oa oc seen v4 vm h4 s:=by
 have hz: ∀x,Or2 Z0 Zn x->Or2 Z0 Zn x∧H' x=H x:=fun x hx=>⟨hx,ha x (h.at_.zlive hz0 x hx) (by
  rcases hx with hx | hx;exact .inr (.inr (.inr (.inr (hz0 x hx))))
  ·exact .inr (.inr (.inr (.inl hx))))⟩
 have hown: ∀{a:Option Addr} {n c sz:Nat} {T:TypeId} {xs:List Value},(∀m,a=some ⟨m,0,none⟩->H m≠none->H' m=H m)->Sh.Own H0 H a n c sz T xs->Sh.Own H0 H' a n c sz T xs:=fun {a n c sz T xs} hs ho=>by refine ⟨ho.1,ho.2.1,?_⟩;rcases ho.2.2 with h1 | ⟨m,rest,h1,h2,h3,h4⟩;exact .inl h1;exact .inr ⟨m,rest,h1,h2,h3.same (hs m h1 h3.some),h4⟩
 have hb:=ha b h.blk.some (.inl rfl);refine ⟨⟨⟨fun x hx h0=>?_,fun x h0=>hl x (h.at_.keep.live x h0)⟩,fun x hx=>?_,h.at_.bn,h.at_.bz,Zb.ext hz _ _ _ h.at_.path,hown (fun m hm hh=>ha m hh (.inr (.inl hm))) h.at_.comms,h.at_.cz,h.at_.clt,?_,h.at_.oz,h.at_.olt⟩,h.blk.same hb,h.seen,h.p4.ext hz,h.m4.ext hz⟩;rw [ha x (h.at_.keep.live x h0) (.inr (.inr (.inr (.inr h0))))];exact h.at_.keep.same x hx h0;obtain ⟨q1,q2,q3⟩:=h.at_.new x hx;rw [ha x q2 (.inr (.inr (.inr (.inl hx))))];exact ⟨q1,q2,q3⟩;obtain ⟨xs,h1,h2⟩:=h.at_.others;exact ⟨xs,hown (fun m hm hh=>ha m hh (.inr (.inr (.inl hm)))) h1,fun i r hr=>Ze.ext hz _ _ _ (h2 i r hr)⟩
end
theorem Zdnl: ∃it,Tryz.prog.info? Zdm=some it∧it.size=1∧it.bytes=4:=by
 have h:(Tryz.prog.info? Zdm).map (fun i=>(i.size,i.bytes))=some (1,4):=by kernel_rfl
 cases hi:Tryz.prog.info? Zdm with
 | none=>rw [hi] at h;cases h
 | some i=>rw [hi] at h;simp only [Option.map_some,Option.some.injEq,Prod.mk.injEq] at h;exact ⟨i,rfl,h.1,h.2⟩
theorem Zcry:Zco Tryz.prog Zdm=some [.int .u32 0]:=by kernel_rfl
theorem Zbwz:Tryz.prog.underlying Zls=some (.slice Zdm):=by kernel_rfl
end Go.Proofs.YthhcfdpoiganhaaGreat
end
section
set_option maxRecDepth 100000
namespace Go.Proofs.YthhcfdpoiganhaaGreat
open Go.Sh
abbrev Zeh (s:RdS) (l:List UInt32):RdS:=s.put (s.a.origin,s.a.path,s.a.next,s.a.hasMed,s.a.med,s.a.hasLocal,s.a.loc,s.a.atomic,s.a.hasMaker,s.a.makerAS,s.a.maker,s.a.comms++l,s.a.others)
abbrev Zbqw (c:List UInt8×Unit):UInt32:=u32B c.1
theorem RdX.grow {Z0:Nat->Prop} {H0 H:Heap} {b:Nat} {four:Bool} {Zn:Nat->Prop} {vp:Value} {ca:Option Addr} {cc:Nat} {oa:Option Addr} {oc:Nat} {seen:List Bool} {v4 vm:Value} {h4:Bool} {s:RdS} {l:List UInt32} (h:RdX Z0 H0 H b four Zn vp ca cc oa oc seen v4 vm h4 (Zeh s l)) (hz0: ∀x,Z0 x->H0 x≠none)
  (hlen:s.a.comms.length+l.length <= 1000000) (x:UInt32) {K:Value->Heap->Prop} {xb:Nat} (hx:Blk H xb Zdm ⟨[.int .u32 (x.toNat:Int)]⟩)
  (hk: ∀ca' cc' H1,Keep (fun y=>ca=some ⟨y,0,none⟩) H H1->(∀m,ca'=some ⟨m,0,none⟩->ca=some ⟨m,0,none⟩∨H m=none)->
   (∀K':Heap->Prop,(∀H2,RdX Z0 H0 H2 b four Zn vp ca' cc' oa oc seen v4 vm h4 (Zeh s (l++[x]))->(∀y,y≠b->H2 y=H1 y)->K' H2)->Zc H1 ⟨b,11,none⟩ (.slice ca' (s.a.comms.length+l.length+1) cc') K')->K (.slice ca' (s.a.comms.length+l.length+1) cc') H1):
  AppW Tryz.prog #[Zls,Zls] Zls [.slice ca (s.a.comms.length+l.length) cc,.slice (some ⟨xb,0,none⟩) 1 1] H K:=by
 obtain ⟨it,h1,h2,h3⟩:=Zdnl;have hcl:(s.a.comms++l).length=s.a.comms.length+l.length:=Yb;have own:Sh.Own H0 H ca (s.a.comms.length+l.length) cc 1 Zdm ((s.a.comms++l).map fun x=>Value.int .u32 (x.toNat:Int)):=by have:=h.at_.comms;rw [← hcl];exact this
 refine Zra (k:=1) (xc:=1) (new:=[.int .u32 (x.toNat:Int)]) Zbwz Zbwz h1 h2 h3 (by decide) Zcry rfl own h.at_.keep (Reads.blk hx rfl fun j hj=>by simp) (by simp [Zv]) (by omega) fun ca' cc' H1 hcc ho hn kk k0=>?_
 refine hk ca' cc' H1 kk hn fun K' hK'=>?_;have hb1:Blk H1 b Zea ⟨Zbg (Zeh s l) four vp ca cc oa oc seen v4 vm h4⟩:=kk.blk h.blk h.blkC;refine Zc.blk hb1 (by simp only [Y1];rw [Zbre h.seen.1];decide) rfl (hK' _ ?_ fun y hy=>Sh.upd_ne hy)
 have a1:=h.at_.grow hz0 kk (x:=x) (ca':=ca') (cc':=cc') (by
  have e:(Zeh s l).a.comms.length=s.a.comms.length+l.length:=hcl;rw [e];exact ho) hn (hcc h.at_.clt)
 have ho': ∀y,y≠b->(H1.upd b (.cells ((⟨Zbg (Zeh s l) four vp ca cc oa oc seen v4 vm h4⟩:Array Value).setIfInBounds 11 (.slice ca' (s.a.comms.length+l.length+1) cc')) Zea (0,0))) y=H1 y:=fun y hy=>Sh.upd_ne hy;have hb2:Blk (H1.upd b (.cells ((⟨Zbg (Zeh s l) four vp ca cc oa oc seen v4 vm h4⟩:Array Value).setIfInBounds 11 (.slice ca' (s.a.comms.length+l.length+1) cc')) Zea (0,0))) b Zea ⟨Zbg (Zeh s (l++[x])) four vp ca' cc' oa oc seen v4 vm h4⟩:=by
  have e:(⟨Zbg (Zeh s l) four vp ca cc oa oc seen v4 vm h4⟩:Array Value).setIfInBounds 11 (.slice ca' (s.a.comms.length+l.length+1) cc')=⟨Zbg (Zeh s (l++[x])) four vp ca' cc' oa oc seen v4 vm h4⟩:=by
   apply Y2;simp only [YEa];have e2:s.a.comms.length+l.length+1=(s.a.comms++(l++[x])).length:=by simp;omega
   rw [e2];rfl
  rw [e];exact Blk.upd_eq
 generalize H1.upd b (.cells ((⟨Zbg (Zeh s l) four vp ca cc oa oc seen v4 vm h4⟩:Array Value).setIfInBounds 11 (.slice ca' (s.a.comms.length+l.length+1) cc')) Zea (0,0))=H2 at ho' hb2;have k12:Keep (fun y=>y=b) H1 H2:=⟨fun y hy _=>ho' y hy,fun y hy=>by
  by_cases e:y=b;subst e;exact hb2.some
  ·rw [ho' y e];exact hy⟩
 have hcb:ca'≠some ⟨b,0,none⟩:=fun e=>by rcases hn b e with h1 | h1;exact h.blkC h1;exact h.blk.some h1
 have a2:=a1.step hz0 k12 fun y hy=>by subst hy;exact ⟨a1.bn,a1.bz,hcb,h.blkO⟩
 have hz: ∀y,Or2 Z0 Zn y->Or2 Z0 Zn y∧H2 y=H y:=fun y hy=>⟨hy,by
  have hl:=h.at_.zlive hz0 y hy;rw [ho' y (fun e=>by
   subst e;rcases hy with hy | hy;exact hz0 y hy h.at_.bn
   ·exact h.at_.bz hy)]
  refine kk.same y (fun hc=>?_) hl;rcases hy with hy | hy;exact hz0 y hy (h.at_.comms.free hc)
  ·exact h.at_.cz y hc hy⟩
 refine ⟨?_,hb2,h.seen,h.p4.ext hz,h.m4.ext hz⟩;have e3:(Zeh s (l++[x])).a.comms=(Zeh s l).a.comms++[x]:=by show s.a.comms++(l++[x])=(s.a.comms++l)++[x];simp
 rw [e3];exact a2
theorem Zdju (l:List (List UInt8×Unit)):(l.map Zbqw).length=l.length:=Yz _
theorem Zcsl {A:Type} {l:List A} (h:l.length=1): ∃a,l= [a]:=by
 match l,h with
 | [a],_=>exact ⟨a,rfl⟩
theorem Zdmp {Z0:Nat->Prop} {H0 H:Heap} {b:Nat} {four:Bool} {s:RdS} {d:List UInt8} {a:Option Addr} {n c:Nat} (hz0: ∀x,Z0 x->H0 x≠none) (hy:Lyd H0) (hd:Zb Z0 H0 Zby d (.slice a n c)) (hdl:d.length <= 100000) (hcm:s.a.comms.length <= 1000) (h:Rd Z0 H0 H b four s):
  FnW Tryz.prog Zbnp ⟨[.pointer (some ⟨b,0,none⟩),.slice a n c]⟩ H (mayR Z0 H0 H b four 8 d s 2):=by
 have hkl: ∀x,H0 x≠none->H x≠none:=h.keep.live;obtain ⟨hn,hnc,hcm2⟩:=Zko hd;have spec:oneF four 8 d s=if d.length≠0∧d.length%4=0∧d.length/4 <= 32 then Zeh s (decN 4 (d.length/4) d) else s.found 2:=rfl
 refine FnW.of_code Zczq (by kernel_rfl) ?_
 generalize hR:(fun v H'=>∀H'',Shut H H' H''->mayR Z0 H0 H b four 8 d s 2 v H'')=R;have done: ∀v H',mayR Z0 H0 H b four 8 d s 2 v H'->R v H':=fun v H' hm=>by rw [← hR];exact fun H2 hs=>hm.fin hz0 hkl hs
 have e:Zg Tryz.f105= .seq (cL (Zg Tryz.f105)) (.seq (cL (cR (Zg Tryz.f105))) (.seq (.seq (cL (cL (cR (cR (Zg Tryz.f105))))) (.block 0 (.rangeFunc (.tmp 22) #[23] (cA (cK (cR (cL (cR (cR (Zg Tryz.f105))))))) (cB (cK (cR (cL (cR (cR (Zg Tryz.f105)))))))))) (cR (cR (cR (Zg Tryz.f105)))))):=by kernel_rfl
 rw [e];refine Zmj (K:=fun ρ' H'=>∃q,ρ' 1= .slice a n c∧ρ' 2= .pointer (some ⟨q,0,none⟩)∧H q=none∧Keep Nil H H'∧Calm H H'∧Blk H' q Zvr ⟨[.pointer (some ⟨b,0,none⟩)]⟩) ?_ ?_;have h1:=Zdmr (env0 [.pointer (some ⟨b,0,none⟩),.slice a n c]) b (.slice a n c) H (fun v1 v2 H'=>∃q,v1= .slice a n c∧v2= .pointer (some ⟨q,0,none⟩)∧H q=none∧Keep Nil H H'∧Calm H H'∧Blk H' q Zvr ⟨[.pointer (some ⟨b,0,none⟩)]⟩) R;rw [put2 (ρ:=env0 [.pointer (some ⟨b,0,none⟩),.slice a n c]) (d1:=0) (v1:= .pointer (some ⟨b,0,none⟩)) (d2:=1) (v2:= .slice a n c) rfl rfl] at h1;refine Eq.mp h1 (newB fun q H1 hq kq cq hbq=>⟨q,rfl,rfl,hq,kq,cq,hbq⟩);rintro ρ1 H1 ⟨q,e1,e2,hqn,k1,c1,hbq⟩;have r1:=h.kept hz0 k1;refine Zmj (K:=fun ρ' H'=>ρ' 1= .slice a n c∧ρ' 2= .pointer (some ⟨q,0,none⟩)∧H'=H1∧d.length≠0∧d.length%4=0∧d.length/4 <= 32) ?_ ?_
 ·have h2:=Zddw ρ1 a n c (.pointer (some ⟨q,0,none⟩)) H1 (fun v1 v2 H'=>v1= .slice a n c∧v2= .pointer (some ⟨q,0,none⟩)∧H'=H1∧d.length≠0∧d.length%4=0∧d.length/4 <= 32) R;rw [put2 e1 e2] at h2;refine Eq.mp h2 ?_;have no: ∀(hf: ¬(d.length≠0∧d.length%4=0∧d.length/4 <= 32)),R (.bool false) H1:=fun hf=>
   done _ _ ⟨false,rfl,c1,by rw [if_neg (by simp)];exact r1,fun _=>by rw [spec,if_neg hf]⟩
  unfold Zbyc;have em:Int.tmod (n:Int) 4=((n%4:Nat):Int):=by
   rw [Int.tmod_eq_emod_of_nonneg (by omega)];omega
  have ed:IntKind.wrap .i64 (Int.tdiv (n:Int) 4)=((n/4:Nat):Int):=by
   rw [Yga (by omega)]
   rw [Zh]<;>omega
  refine IfB.intro (fun h0=>ifT rfl (no fun hf=>hf.1 (by have:=eq_of_beq h0;omega))) fun h0=>⟨by decide,IfB.intro (fun h3=>ifT rfl (no fun hf=>?_)) fun h3=>⟨by decide,?_⟩⟩
  rw [em] at h3;simp at h3;omega
  ·rw [em] at h3;rw [ed];unfold Zbgf;have h0':n≠0:=by simp at h0;omega
   have h3':n%4=0:=by simp at h3;omega
   refine IfB.intro (fun h5=>no fun hf=>?_) fun h5=>⟨rfl,rfl,rfl,by omega,by omega,?_⟩
   have:=of_decide_eq_true h5;omega;have:=of_decide_eq_false h5;omega
 rintro ρ2 H2 ⟨f1,f2,rfl,g1,g2,g3⟩;refine Zmj (K:=fun ρ' H'=>Rd Z0 H0 H' b four (Zeh s (decN 4 (d.length/4) d))∧Calm H H') ?_ ?_
 rotate_left
 ·rintro ρ3 H3 ⟨r3,c3⟩;have h4:=Zcva ρ3 H3 (fun _=>False) R;refine Zd.mono _ (fun e ρ' H' he=>?_) _ _ (Eq.mp h4 ?_)
  ·cases e<;>simp only [Zev] at he ⊢ <;>first | exact he.elim | exact he
  ·refine done _ _ ⟨true,rfl,c3,?_,fun h=>by cases h⟩
   rw [if_pos rfl,spec,if_pos ⟨g1,g2,g3⟩];exact r3
 refine Zmj (K:=fun ρ' H'=>∃b1 b2 T1 T2,ρ' 22= .func (.func Zid) #[] ⟨[Zdg b1,Zdg b2]⟩∧ρ' 2= .pointer (some ⟨q,0,none⟩)∧H2 b1=none∧H2 b2=none∧b1≠b2∧Keep Nil H2 H'∧H' b1=some (.cells ⟨[.slice a n c]⟩ T1 (0,0))∧H' b2=some (.cells ⟨[.int .i64 4]⟩ T2 (0,0))) ?_ ?_
 ·have h4:=Zdmm ρ2 a n c (.pointer (some ⟨q,0,none⟩)) H2 (fun v2 v22 H'=>∃b1 b2 T1 T2,v22= .func (.func Zid) #[] ⟨[Zdg b1,Zdg b2]⟩∧v2= .pointer (some ⟨q,0,none⟩)∧H2 b1=none∧H2 b2=none∧b1≠b2∧Keep Nil H2 H'∧H' b1=some (.cells ⟨[.slice a n c]⟩ T1 (0,0))∧H' b2=some (.cells ⟨[.int .i64 4]⟩ T2 (0,0))) R;rw [put2 f1 f2] at h4;refine Zd.mono _ (fun e ρ' H' he=>?_) _ _ (Eq.mp h4 ((Zclz (by decide)).mono fun v H' hv=>?_))
  ·cases e<;>simp only [Zev] at he ⊢ <;>first | exact he.elim | exact he
  obtain ⟨b1,b2,T1,T2,rfl,q1,q2,q3,q4,q5,q6⟩:=hv;exact ⟨_,rfl,b1,b2,T1,T2,rfl,rfl,q1,q2,q3,q4,q5,q6⟩
 rintro ρ3 H3 ⟨b1,b2,T1,T2,e22,e2',n1,n2,hne,k3,hb1,hb2⟩;obtain ⟨Zn,vp,ca,cc,oa,oc,seen,v4,vm,h4,x2⟩:=r1;have x3:=x2.kept hz0 k3;have c3:=c1.trans (Zem k3);have kq:=k3.blk hbq fun h=>h.elim;have hd3:=Ziv hz0 hd x3.at_.keep;have notB: ∀x,H2 x≠none->H3 x≠none∧x∉[b1,b2]:=fun x hx=>⟨k3.live x hx,fun hm=>by
  simp only [Yj,YBa,or_false] at hm;rcases hm with rfl | rfl;exact hx n1
  ·exact hx n2⟩
 have l0: ∀x,H0 x≠none->H2 x≠none:=x2.at_.keep.live
 let L:Looper Zmk H3 [b1,b2]:={
  J:=fun Z W r Hc=>∃(l:List UInt32) (ca:Option Addr) (cc:Nat),RdX Z0 H0 Hc b four Zn vp ca cc oa oc seen v4 vm h4 (Zeh s l)∧l++r.map Zbqw=decN 4 (d.length/4) d∧(∀c∈r,c.1.length=4)∧W=(fun x=>x=b∨ca=some ⟨x,0,none⟩)∧(∀x,W x->¬Z x)∧
   (∀x,Z x->Hc x≠none∧(H3 x≠none∨∀ds,Hc x≠some (.deferred ds)))∧Calm H Hc∧Blk Hc q Zvr ⟨[.pointer (some ⟨b,0,none⟩)]⟩
  X:=fun _ _ _ _=>False
  stJ:=fun {Z W r Hc H'} hJ hag hlv=>by obtain ⟨l,ca,cc,x,hl,hr,rfl,hwz,hzl,hcm,hbq⟩:=hJ;have live2: ∀y,H2 y≠none->Hc y≠none->H' y=Hc y:=fun y hy hc=>hag y hc (.inr (.inr (notB y hy)));refine ⟨l,ca,cc,x.agree (fun y hy hc=>?_) hlv hz0,hl,hr,rfl,hwz,fun y hy=>?_,fun y T cc' hb' t1 t2 t3=>?_,?_⟩;rcases hc with h | h | h | h | h;exact hag y hy (.inr (.inl (.inl h)));exact hag y hy (.inr (.inl (.inr h)));obtain ⟨cx,hcx⟩:=x2.at_.liveO y h;exact live2 y hcx.some hy;exact live2 y (x2.at_.new y h).2.1 hy;exact live2 y (l0 y h) hy;obtain ⟨q1,q2⟩:=hzl y hy;rw [hag y q1 (.inl hy)];exact ⟨q1,q2⟩;have:=hcm y T cc' hb' t1 t2 t3;exact this.same (live2 y (k1.live y hb'.some) this.some);exact hbq.same (live2 q (by have:=k1;exact (show H2 q≠none from (by assumption:Blk H2 q Zvr ⟨[.pointer (some ⟨b,0,none⟩)]⟩).some)) hbq.some)
  stX:=fun hX _ _=>hX.elim
  ndJ:=fun {Z W r Hc} hJ y hy=>by
   obtain ⟨l,ca,cc,x,hl,hr,rfl,hwz,hzl,hcm,hbq⟩:=hJ;rcases hy with hy | rfl | hy;exact (hzl y hy).2
   ·exact .inr fun ds e=>by have:=x.blk;unfold Blk at this;rw [this] at e;cases e
   ·obtain ⟨cx,hcx⟩:=x.at_.liveC y hy;exact .inr fun ds e=>by unfold Blk at hcx;rw [hcx] at e;cases e
  ndX:=fun hX _ _=>hX.elim
 }
 have hbc:b≠q:=fun e=>by have h1:=x3.blk;unfold Blk at h1 kq;rw [e,kq] at h1;cases h1
 obtain ⟨dec1,dec2⟩:=Zbmo (size:=4) (by decide) (d.length/4) d (by omega)
 refine Zdhy (Zdhz (P:=Tryz.prog) Zcdv (bs:=[b1,b2]) (us:=[.slice a n c,.int .i64 4]) (c:=(d,(4:Int),())) (Z0:=Z0) (W0:=fun x=>x=b∨ca=some ⟨x,0,none⟩) (S:=fun vs ρ1=>ρ1 2= .pointer (some ⟨q,0,none⟩)∧∃v,vs= [v]∧ρ1 5=v)
  (by simp only [ev];exact e22) (show Zbid d 4 from ⟨by decide,by decide,by omega⟩) (by simp [hne]) rfl ?_ ?_ ?_ (fun x hx=>x3.at_.keep.live x (hz0 x hx)) ?_ ?_ ?_ ((hy.keep x3.at_.keep).ok) L ?_ rfl ?_ ?_ ?_ ?_)
 ·intro i y v h1 h2
  match i,h1,h2 with
  | 0,h1,h2=>simp at h1 h2;subst h1 h2;exact ⟨T1,hb1⟩
  | 1,h1,h2=>simp at h1 h2;subst h1 h2;exact ⟨T2,hb2⟩
  | i+2,h1,_=>simp at h1
 show SimL _ H3 0 [AV.lst [.int .u8] d,.int .i64 4] _;simp only [SimL,SimV,and_true];exact ⟨hd3,trivial,by decide,by decide⟩
 show WfY [.lst [.int .u8],.int .i64] (d,(4:Int),());exact ⟨Zb.wf _ _ _ hd3,(show InR .i64 4 from ⟨by decide,by decide⟩),trivial⟩
 ·intro y hym;have hn2:H2 y=none:=by simp only [Yj,YBa,or_false] at hym;rcases hym with rfl | rfl;exact n1;exact n2
  refine ⟨fun hz=>l0 y (hz0 y hz) hn2,fun hw=>?_⟩;rcases hw with rfl | hw;exact x2.blk.some hn2;obtain ⟨cx,hcx⟩:=x2.at_.liveC y hw;exact hcx.some hn2
 intro y hyw;rcases hyw with rfl | hyw;exact ⟨x3.blk.some,fun hz=>hz0 _ hz x3.at_.bn⟩;obtain ⟨cx,hcx⟩:=x3.at_.liveC y hyw;exact ⟨hcx.some,fun hz=>hz0 y hz (x3.at_.comms.free hyw)⟩;intro y hyb;have h0:=hy.live y hyb;obtain ⟨q1,q2⟩:=notB y (l0 y h0);refine ⟨q1,q2,fun hw=>?_⟩;rcases hw with rfl | hw;exact h0 x3.at_.bn;exact h0 (x3.at_.comms.free hw)
 ·refine ⟨[],ca,cc,?_,?_,dec2,rfl,fun y hyw hz=>?_,fun y hz=>?_,c3,kq⟩
  ·have e:Zeh s []=s:=by unfold Zeh;rw [Yv];rfl
   rw [e];exact x3
  rw [List.nil_append];exact dec1;rcases hyw with rfl | hyw;exact hz0 _ hz x3.at_.bn;exact hz0 y hz (x3.at_.comms.free hyw);have:=x3.at_.keep.live y (hz0 y hz);exact ⟨this,.inl this⟩
 ·intro vs Hx hvs;obtain ⟨v,rfl⟩:=Zcsl (show vs.length=1 from hvs)
  have h5:=Zdeh ρ3 v (.pointer (some ⟨q,0,none⟩)) Hx (fun v2 v5 H'=>H'=Hx∧v2= .pointer (some ⟨q,0,none⟩)∧v5=v) (fun _ _=>False);rw [Zjj (ρ:=put ρ3 (some 23) v) (d:=2) (v:= .pointer (some ⟨q,0,none⟩)) (by exact e2')] at h5
  refine Zd.mono _ (fun e ρ' H' he=>?_) _ _ (Eq.mp h5 ⟨rfl,rfl,rfl⟩);obtain ⟨rfl,q1,q2,q3⟩:=Zcdi he;exact ⟨rfl,q1,q2,v,rfl,q3⟩
 ·intro Z W Zx x r Hx vs ρ4 hS hJ hx hZx;obtain ⟨s2,v,rfl,s5⟩:=hS;obtain ⟨l,ca,cc,xx,hl,hr,rfl,hwz,hzl,hcm4,hbq4⟩:=hJ;obtain ⟨ch,u⟩:=x;change List UInt8 at ch;have hxc:Zb Zx Hx Zby ch v:=by have:SimL ⟨Zx,fun _=>0,fun _=> .nilFunc⟩ Hx 0 (pksA 0 [.lst [.int .u8]] (ch,u)) [v]:=hx;simp only [pksA,pkA,SimL,SimV,and_true] at this;exact this
  obtain ⟨xa,xn,xc,rfl⟩: ∃xa xn xc,v= .slice xa xn xc:=by simp only [Zb] at hxc;obtain ⟨pa,pn,pc,e,_⟩:=hxc;exact ⟨pa,pn,pc,e⟩
  have hch:ch.length=4:=hr (ch,u) Yk;have zxl: ∀y,Zx y->Hx y≠none:=fun y hy=>by rcases hZx y hy with h | ⟨_,⟨cs,T,qq,h⟩,_⟩;exact (hzl y h).1;rw [h];simp
  have hll:l.length+r.length+1=d.length/4:=by have h2:(l++List.map Zbqw ((ch,u)::r)).length=l.length+(r.length+1):=Yb.trans (congrArg (l.length+ ·) (Zdju ((ch,u)::r)));have e:l.length+(r.length+1)=d.length/4:=h2.symm.trans ((congrArg List.length hl).trans (Zbbs _ _ _));omega
  have h5:=Zdmb ρ4 q xa xn xc Hx (fun H'=>After L Z (fun x=>x=b∨ca=some ⟨x,0,none⟩) Zx r Hx .normal H') (fun _ _=>False);rw [put2 s2 s5] at h5;refine Zd.mono _ (fun e ρ' H' he=>?_) _ _ (Eq.mp h5 ?_);obtain ⟨rfl,q1⟩:=Zcdi he;exact q1;refine ⟨[q,b],fun y hym=>?_,by simp,_,Zbu hbq4 0 rfl,by simp,_,Zbu hbq4 0 rfl,?_⟩
  simp only [Yj,YBa,or_false] at hym;rcases hym with rfl | rfl;exact YR.1 hbq4.some;exact YR.1 xx.blk.some;refine NilP.intro ⟨b,0,none⟩ rfl ⟨by simp,_,_,_,xx.get 11 rfl,?_⟩
  refine (Zjw (d:=ch) zxl (hy.keep xx.at_.keep) hxc (by omega)).mono fun w Ha hv=>?_
  obtain ⟨ka,rfl⟩:=hv;have e4:ch.take 4=ch:=YX (by omega)
  rw [e4];have xa':=xx.kept hz0 ka;have keptK: ∀{S:Nat->Prop} {H':Heap},Keep S Hx H'->¬S q->¬S b->Zes [q,b] Hx H':=fun {S H'} k hq hb y hym=>by simp only [Yj,YBa,or_false] at hym;rcases hym with rfl | rfl;exact ⟨YR.1 hbq4.some,k.same _ hq hbq4.some⟩;exact ⟨YR.1 xx.blk.some,k.same _ hb xx.blk.some⟩
  refine ⟨_,rfl,keptK ka (fun h=>h) (fun h=>h),newB fun nb Hb hnb kb cb hbn=>?_⟩;have xb:=xa'.kept hz0 kb;have hcq:ca≠some ⟨q,0,none⟩:=fun e=>by obtain ⟨cx,hcx⟩:=xx.at_.liveC q e;unfold Blk at hcx hbq4;rw [hbq4] at hcx;cases hcx
  have hlen2:(Zeh s l).a.comms.length=s.a.comms.length+l.length:=Yb;have kxb:=ka.trans kb;rw [show ((Zeh s l).a.comms.length)=s.a.comms.length+l.length from hlen2]
  refine xb.grow hz0 (by omega) (u32B ch) hbn fun ca' cc' Hc kc hnew hst=>?_
  have kxc:Keep (fun y=>ca=some ⟨y,0,none⟩) Hx Hc:=(kxb.mono fun _ h=>h.elim).trans kc;refine ⟨_,_,_,rfl,keptK kxc hcq xx.blkC,NilP.intro ⟨b,0,none⟩ rfl (hst _ fun Hd xd ho=>?_)⟩;have same: ∀y,Hx y≠none->¬(y=b∨ca=some ⟨y,0,none⟩)->Hd y=Hx y:=fun y hy1 hyw=>by rw [ho y (fun e=>hyw (.inl e))];exact kxc.same y (fun e=>hyw (.inr e)) hy1
  have live: ∀y,Hx y≠none->Hd y≠none:=fun y hy1=>by by_cases e:y=b;subst e;exact xd.blk.some;rw [ho y e];exact kxc.live y hy1
  have wz: ∀y,Z y∨Zx y->¬(y=b∨ca=some ⟨y,0,none⟩):=fun y hyz hyw=>by rcases hyz with h | h;exact hwz y hyw h;rcases hZx y h with h' | ⟨h',_⟩;exact hwz y hyw h';exact h' hyw
  have zl: ∀y,Z y∨Zx y->Hx y≠none:=fun y hyz=>hyz.elim (fun h=>(hzl y h).1) (zxl y);have newN: ∀y,ca'=some ⟨y,0,none⟩->ca=some ⟨y,0,none⟩∨Hx y=none:=fun y hy1=>(hnew y hy1).imp id fun h=>kxb.free h;refine ⟨same,live,fun y=>Z y∨Zx y,fun y=>y=b∨ca'=some ⟨y,0,none⟩,fun y hyz=>⟨hyz,same y (zl y hyz) (wz y hyz)⟩,fun y hyw=>?_,fun y hyz=>?_,fun y hyz=>?_,fun y hyw hyz=>?_,.inl ⟨rfl,l++[u32B ch],ca',cc',xd,?_,fun c hc=>hr c (Yi _ hc),rfl,fun y hyw hyz=>?_,fun y hyz=>?_,?_,?_⟩⟩;rcases hyw with h | h;exact .inl (.inl h);exact (newN y h).imp .inr id;rcases hyz with h | h;exact .inl h;exact .inr (.inl h);rcases hyz with h | rfl | h;exact live y (zl y h);exact xd.blk.some;obtain ⟨cx,hcx⟩:=xd.at_.liveC y h;exact hcx.some;rcases hyw with h | h;exact wz y hyz (.inl h);rcases newN y h with h | h;exact wz y hyz (.inr h);exact zl y hyz h;rw [← hl,Yu];rfl;rcases hyw with h | h;exact wz y hyz (.inl h);rcases newN y h with h | h;exact wz y hyz (.inr h);exact zl y hyz h
  ·refine ⟨live y (zl y hyz),?_⟩;rw [same y (zl y hyz) (wz y hyz)];rcases hyz with h | h;exact (hzl y h).2
   ·rcases hZx y h with h | ⟨_,⟨cs,T,qq,h⟩,_⟩;exact (hzl y h).2
    ·exact .inr fun ds e=>by rw [h] at e;cases e
  refine ((hcm4.trans (Zem kxb)).trans (Zbqn kc fun y hy1=>?_)).trans fun y T cx hb' t1 t2 t3=>?_;obtain ⟨cx,hcx⟩:=xb.at_.liveC y hy1;exact ⟨_,cx,hcx,.inr (.inl rfl)⟩;refine hb'.same (ho y fun e=>?_);subst e;have h1:=kc.blk xb.blk xb.blkC;unfold Blk at h1 hb';rw [h1] at hb';cases hb';exact t1 rfl;exact hbq4.same (same q hbq4.some fun h=>h.elim (fun h=>hbc h.symm) hcq)
 ·rintro Z W H' ⟨l,ca,cc,x,hl,_,_,_,_,hcm4,_⟩;have hl':l=decN 4 (d.length/4) d:=by rw [← hl];exact (Yv l).symm
  subst hl';exact ⟨⟨_,_,_,_,_,_,_,_,_,_,x⟩,hcm4⟩
 intro e Z W H' hX;exact hX.elim
end Go.Proofs.YthhcfdpoiganhaaGreat
end
section
namespace Go.Proofs.YthhcfdpoiganhaaGreat
open Go.Sh
theorem Zcsd {d:List UInt8} (h:d.length=1) (h0:0<d.length):d[0]=d.headD 0:=by
 match d,h with
 | [x],_=>rfl
theorem Zdjf {Z0:Nat->Prop} {H0 H:Heap} {b:Nat} {four:Bool} {s:RdS} {d:List UInt8} {a:Option Addr} {n c kd:Nat} (hz0: ∀x,Z0 x->H0 x≠none) (hy:Lyd H0) (hd:Zb Z0 H0 Zby d (.slice a n c)) (hdl:d.length <= 100000) (hcm:s.a.comms.length <= 1000∨kd≠8) (h:Rd Z0 H0 H b four s) (fl sz:Int) (hkd:kd=1∨kd=2∨kd=3∨kd=4∨kd=5∨kd=8) (h2:kd=2->s.a.path= []):
  FnW Tryz.prog Zzb ⟨[.pointer (some ⟨b,0,none⟩),.agg ⟨pcV fl kd a n c sz⟩]⟩ H (mayR Z0 H0 H b four kd d s 2):=by
 obtain ⟨Zn,vp,ca,cc,oa,oc,seen,v4,vm,h4,h⟩:=h;obtain ⟨hn,hnc,hcm2⟩:=Zko hd;have hkl: ∀x,H0 x≠none->H x≠none:=h.at_.keep.live;have done: ∀v H',mayR Z0 H0 H b four kd d s 2 v H'->∀H2,Shut H H' H2->mayR Z0 H0 H b four kd d s 2 v H2:=fun v H' hm H2 hs=>hm.fin hz0 hkl hs;refine Zdon b fl kd a n c sz (newB fun p H1 hp kp cp hbp=>?_);have q1:=h.kept hz0 kp;have hdk:=Ziv hz0 hd q1.at_.keep;have stay: ∀H',RdX Z0 H0 H' b four Zn vp ca cc oa oc seen v4 vm h4 s->Calm H H'->oneF four kd d s=s.found 2->∀H2,Shut H H' H2->mayR Z0 H0 H b four kd d s 2 (.bool false) H2:=fun H' hx hc hs=>done _ _ ⟨false,rfl,hc,by rw [if_neg (by simp)];exact ⟨_,_,_,_,_,_,_,_,_,_,hx⟩,fun _=>hs⟩
 refine ⟨a,n,c,Zbu hbp 2 rfl,kd,Zbu hbp 1 rfl,?_⟩;refine IfB.intro (fun e1=>?_) (fun e1=>IfB.intro (fun e2=>?_) fun e2=>IfB.intro (fun e3=>?_) fun e3=>IfB.intro (fun e4=>?_) fun e4=>IfB.intro (fun e8=>?_) fun e8=>?_)
 ·have e1:kd=1:=by have:=eq_of_beq e1;omega
  subst e1;have spec:oneF four 1 d s=if d.length=1∧(d.headD 0).toNat <= 2 then s.put (((d.headD 0).toNat:Int),s.a.path,s.a.next,s.a.hasMed,s.a.med,s.a.hasLocal,s.a.loc,s.a.atomic,s.a.hasMaker,s.a.makerAS,s.a.maker,s.a.comms,s.a.others) else s.found 2:=rfl
  refine IfB.intro (fun h1=>?_) fun h1=>?_;refine ifT rfl (stay H1 q1 cp ?_);rw [spec,if_neg (fun hh=>by rw [hn,hh.1] at h1;simp at h1)]
  ·have h1:d.length=1:=by simp at h1;omega
   obtain ⟨db,o,rfl,hzb,hcell⟩:=Zbpu hdk (i:=0) (by omega)
   rw [Zcsd h1] at hcell;refine NilP.intro ⟨db,o,none⟩ rfl ⟨by omega,by omega,?_⟩
   show elemAt _ _ 1 _;rw [Zjk];refine ⟨_,hcell,?_⟩;unfold Zbjp;refine IfB.intro (fun h5=>stay H1 q1 cp ?_) fun h5=>?_;have:=of_decide_eq_true h5;rw [spec,if_neg (by omega)]
   ·have:=of_decide_eq_false h5;refine NilP.intro ⟨db,o,none⟩ rfl ⟨by omega,by omega,?_⟩
    show elemAt _ _ 1 _;rw [Zjk];refine ⟨_,hcell,?_⟩;rw [Zh (by omega) (by omega)]
    refine q1.st 0 (by decide) rfl fun H2 hb2 ho2=>?_
    refine done _ _ ⟨true,rfl,cp.trans (q1.calmB ho2),?_,fun h=>by cases h⟩
    rw [if_pos rfl,spec,if_pos ⟨h1,by omega⟩]
    exact ⟨_,_,_,_,_,_,_,_,_,_,q1.turn hz0 ho2 (s':=s.put (((d.headD 0).toNat:Int),s.a.path,s.a.next,s.a.hasMed,s.a.med,s.a.hasLocal,s.a.loc,s.a.atomic,s.a.hasMaker,s.a.makerAS,s.a.maker,s.a.comms,s.a.others)) hb2 rfl rfl q1.at_.path q1.seen q1.p4 q1.m4⟩
 ·have e2:kd=2:=by have:=eq_of_beq e2;omega
  subst e2;have p0:=h2 rfl;have spec:oneF four 2 d s=match Zew four d with | some p=>s.put (s.a.origin,p,s.a.next,s.a.hasMed,s.a.med,s.a.hasLocal,s.a.loc,s.a.atomic,s.a.hasMaker,s.a.makerAS,s.a.maker,s.a.comms,s.a.others) | none=>s.found 2:=rfl
  refine ⟨four,q1.get 13 rfl,?_⟩;refine (Zcdb (d:=d) (four:=four) (Zia hz0 q1.at_.keep) (hy.keep q1.at_.keep) hdk (by omega)).mono fun v H4 hm=>?_
  obtain ⟨k4,Z1,pp,vq,e,hf,rfl,hpp,hr⟩:=hm;have q4:=q1.more hz0 k4 hf;have hpp':Zb (Or2 Z0 (Or2 Zn Z1)) H4 Zfn pp vq:=Zb.ext (fun x hx=>⟨hx.elim .inl fun h=> .inr (.inr h),rfl⟩) _ _ _ hpp;obtain ⟨pa,pn,pc,rfl⟩: ∃pa pn pc,vq= .slice pa pn pc:=by simp only [Zb] at hpp;obtain ⟨pa,pn,pc,e,_⟩:=hpp;exact ⟨pa,pn,pc,e⟩
  refine ⟨pa,pn,pc,e,rfl,q4.st 1 (by decide) rfl fun H5 hb5 ho5=>?_⟩
  have q5:=q4.turn hz0 ho5 (s':=s.put (s.a.origin,pp,s.a.next,s.a.hasMed,s.a.med,s.a.hasLocal,s.a.loc,s.a.atomic,s.a.hasMaker,s.a.makerAS,s.a.maker,s.a.comms,s.a.others)) hb5 rfl rfl hpp' q4.seen q4.p4 q4.m4;refine done _ _ ⟨(e==0),rfl,(cp.trans (Zem k4)).trans (q4.calmB ho5),?_,fun h0=>?_⟩
  ·rcases hr with ⟨hr,rfl⟩ | ⟨hr,rfl,rfl⟩
   ·rw [if_pos (by rfl),spec,hr]
    exact ⟨_,_,_,_,_,_,_,_,_,_,q5⟩
   ·rw [if_neg (by simp)]
    have es:s.put (s.a.origin,[],s.a.next,s.a.hasMed,s.a.med,s.a.hasLocal,s.a.loc,s.a.atomic,s.a.hasMaker,s.a.makerAS,s.a.maker,s.a.comms,s.a.others)=s:=by rw [← p0];rfl
    exact ⟨_,_,_,_,_,_,_,_,_,_,Eq.mp (congrArg (RdX Z0 H0 H5 b four (Or2 Zn Z1) (.slice pa pn pc) ca cc oa oc seen v4 vm h4) es) q5⟩
  rcases hr with ⟨hr,rfl⟩ | ⟨hr,rfl,rfl⟩;simp at h0;rw [spec,hr]
 ·have e3:kd=3:=by have:=eq_of_beq e3;omega
  subst e3;have spec:oneF four 3 d s=if d.length=4∧numB d≠0∧numB d<3758096384 then s.put (s.a.origin,s.a.path,u32B d,s.a.hasMed,s.a.med,s.a.hasLocal,s.a.loc,s.a.atomic,s.a.hasMaker,s.a.makerAS,s.a.maker,s.a.comms,s.a.others) else s.found 2:=rfl
  refine IfB.intro (fun h1=>?_) fun h1=>?_;refine ifT rfl (stay H1 q1 cp ?_);rw [spec,if_neg (fun hh=>by rw [hn,hh.1] at h1;simp at h1)]
  ·have h1:d.length=4:=by simp at h1;omega
   have et:d.take 4=d:=YX (by omega)
   have hlt:numB d<4294967296:=Zcac (by omega)
   refine (Zjw (d:=d) (Zia hz0 q1.at_.keep) (hy.keep q1.at_.keep) hdk (by omega)).mono fun v H9 hm=>?_
   obtain ⟨k9,rfl⟩:=hm;rw [et];have q9:=q1.kept hz0 k9;refine ⟨_,rfl,(Zcrx (u32B d) (hy.keep q9.at_.keep)).mono fun v H10 hm=>?_⟩;obtain ⟨k10,rfl⟩:=hm;have q10:=q9.kept hz0 k10;have c10:=(cp.trans (Zem k9)).trans (Zem k10);refine ⟨_,rfl,?_⟩;unfold Zblv;rw [Zyq hlt];refine IfB.intro (fun h5=>stay H10 q10 c10 ?_) fun h5=>?_
   ·rw [spec,if_neg];rintro ⟨_,h6,h7⟩;rw [decide_eq_true (by omega)] at h5
    cases h5
   ·have h6:numB d≠0∧numB d<3758096384:=by by_cases hh:((numB d:Int)≠0∧(numB d:Int)<3758096384);omega;rw [decide_eq_false hh] at h5;cases h5
    have hd10:=Ziv hz0 hd q10.at_.keep;refine (Zjw (d:=d) (Zia hz0 q10.at_.keep) (hy.keep q10.at_.keep) hd10 (by omega)).mono fun v H11 hm=>?_
    obtain ⟨k11,rfl⟩:=hm;rw [et];have q11:=q10.kept hz0 k11;refine ⟨_,rfl,q11.st 2 (by decide) rfl fun H12 hb12 ho12=>?_⟩
    refine done _ _ ⟨true,rfl,(c10.trans (Zem k11)).trans (q11.calmB ho12),?_,fun h=>by cases h⟩
    rw [if_pos rfl,spec,if_pos ⟨h1,h6⟩];exact ⟨_,_,_,_,_,_,_,_,_,_,q11.turn hz0 ho12 (s':=s.put (s.a.origin,s.a.path,u32B d,s.a.hasMed,s.a.med,s.a.hasLocal,s.a.loc,s.a.atomic,s.a.hasMaker,s.a.makerAS,s.a.maker,s.a.comms,s.a.others)) hb12 rfl rfl q11.at_.path q11.seen q11.p4 q11.m4⟩
 ·have e4:kd=4:=by have:=eq_of_beq e4;omega
  subst e4;have spec:oneF four 4 d s=if d.length=4 then s.put (s.a.origin,s.a.path,s.a.next,true,u32B d,s.a.hasLocal,s.a.loc,s.a.atomic,s.a.hasMaker,s.a.makerAS,s.a.maker,s.a.comms,s.a.others) else s.found 2:=rfl
  refine IfB.intro (fun h1=>?_) fun h1=>?_;refine stay H1 q1 cp ?_;rw [spec,if_neg (fun hh=>by rw [hn,hh] at h1;simp at h1)]
  ·have h1:d.length=4:=by simp at h1;omega
   have et:d.take 4=d:=YX (by omega)
   refine (Zjw (d:=d) (Zia hz0 q1.at_.keep) (hy.keep q1.at_.keep) hdk (by omega)).mono fun v H9 hm=>?_
   obtain ⟨k9,rfl⟩:=hm;rw [et];have q9:=q1.kept hz0 k9;refine ⟨_,rfl,q9.st 3 (by decide) rfl fun H10 hb10 ho10=>?_⟩
   have q10:=q9.turn hz0 ho10 (s':=s.put (s.a.origin,s.a.path,s.a.next,true,s.a.med,s.a.hasLocal,s.a.loc,s.a.atomic,s.a.hasMaker,s.a.makerAS,s.a.maker,s.a.comms,s.a.others)) hb10 rfl rfl q9.at_.path q9.seen q9.p4 q9.m4;refine q10.st 4 (by decide) rfl fun H11 hb11 ho11=>?_
   refine done _ _ ⟨true,rfl,((cp.trans (Zem k9)).trans (q9.calmB ho10)).trans (q10.calmB ho11),?_,fun h=>by cases h⟩
   rw [if_pos rfl,spec,if_pos h1];exact ⟨_,_,_,_,_,_,_,_,_,_,q10.turn hz0 ho11 (s':=s.put (s.a.origin,s.a.path,s.a.next,true,u32B d,s.a.hasLocal,s.a.loc,s.a.atomic,s.a.hasMaker,s.a.makerAS,s.a.maker,s.a.comms,s.a.others)) hb11 rfl rfl q10.at_.path q10.seen q10.p4 q10.m4⟩
 ·have e8:kd=8:=by have:=eq_of_beq e8;omega
  subst e8;refine (Zdmp hz0 hy hd hdl (hcm.resolve_right fun h=>h rfl) ⟨_,_,_,_,_,_,_,_,_,_,q1⟩).mono fun v H3 hm=>?_;obtain ⟨ok,rfl,c3,r3,h3⟩:=hm;exact ⟨ok,rfl,done _ _ ⟨ok,rfl,cp.trans c3,r3,h3⟩⟩
 ·have e5:kd=5:=by
   have h1: ¬((kd:Int)=1):=fun e=>by rw [e] at e1;simp at e1
   have h2: ¬((kd:Int)=2):=fun e=>by rw [e] at e2;simp at e2
   have h3: ¬((kd:Int)=3):=fun e=>by rw [e] at e3;simp at e3
   have h4: ¬((kd:Int)=4):=fun e=>by rw [e] at e4;simp at e4
   have h8: ¬((kd:Int)=8):=fun e=>by rw [e] at e8;simp at e8
   omega
  subst e5;refine done _ _ ⟨true,rfl,cp,?_,fun h=>by cases h⟩
  rw [if_pos rfl];exact ⟨_,_,_,_,_,_,_,_,_,_,q1⟩
end Go.Proofs.YthhcfdpoiganhaaGreat
end
section
set_option maxRecDepth 100000
set_option maxHeartbeats 2000000
namespace Go.Proofs.YthhcfdpoiganhaaGreat
open Go.Sh
theorem Zcsh: ∃it,Tryz.prog.info? Zcl=some it∧it.size=2∧it.bytes=32:=by
 have h:(Tryz.prog.info? Zcl).map (fun i=>(i.size,i.bytes))=some (2,32):=by kernel_rfl
 cases hi:Tryz.prog.info? Zcl with
 | none=>rw [hi] at h;cases h
 | some i=>rw [hi] at h;simp only [Option.map_some,Option.some.injEq,Prod.mk.injEq] at h;exact ⟨i,rfl,h.1,h.2⟩
theorem Zbtl:Zco Tryz.prog Zcl=some [.int .i64 0,.slice none 0 0]:=by kernel_rfl
theorem Zkm:Tryz.prog.underlying Zeq=some (.slice Zcl):=by kernel_rfl
theorem Zdag:Tryz.prog.underlying Zjc=some (.int .i64):=by kernel_rfl
theorem Zsp:szOf Tryz.prog Zcl=some 2:=by kernel_rfl
theorem Zcvp {S:Nat->Prop} {H H1 H2:Heap} (k:Keep S H H1) (hs:Shut H H1 H2):Keep S H H2:=
 ⟨fun b hb ha=>by
  rcases hs b with e | ⟨e,_,_⟩;rw [e];exact k.same b hb ha
  ·exact absurd e ha,fun b ha=>by
  rcases hs b with e | ⟨e,_,_⟩;rw [e];exact k.live b ha
  ·exact absurd e ha⟩
theorem Zdoc {H0 Hs H1 H2:Heap} {a:Option Addr} {n c sz:Nat} {T:TypeId} {xs:List Value} (ho:Sh.Own H0 H1 a n c sz T xs) (hs:Shut Hs H1 H2):Sh.Own H0 H2 a n c sz T xs:=by refine ⟨ho.1,ho.2.1,?_⟩;rcases ho.2.2 with h1 | ⟨m,rest,h1,h2,h3,h4⟩;exact .inl h1;exact .inr ⟨m,rest,h1,h2,Zbhz h3 hs,h4⟩
theorem Zcqw {pre old post new:List Value} (h:old.length=new.length):putRow (⟨pre++(old++post)⟩:Array Value) pre.length new=⟨pre++(new++post)⟩:=by
 apply Array.ext_getElem?
 intro j;rw [Ziw _ _ _ _ (by simp only [Y1,Yb];omega)]
 simp only [YE];by_cases h1:j<pre.length;rw [if_neg (by omega),Yd h1,Yd h1]
 ·by_cases h2:j<pre.length+new.length;rw [if_pos (by omega),Yg (by omega),Yd (by omega)]
  ·rw [if_neg (by omega),Yg (by omega),Yg (by omega),Yg (by omega),Yg (by omega)]
   congr 1;omega
theorem Zbgy {c:List Value} {o:Nat} {pre old post new:List Value} (hc:c=pre++(old++post)) (ho:pre.length=o) (h:old.length=new.length):putRow (⟨c⟩:Array Value) o new=⟨pre++(new++post)⟩:=by subst hc ho;exact Zcqw h
theorem Zcrw {H0 H:Heap} {a:Option Addr} {n cap:Nat} {xs new:List Value} {vb i:Nat} (ho:Sh.Own H0 H a n cap 2 Zcl xs) (k0:Keep Nil H0 H) (hcap:cap <= Zw) (hn:n <= 1000) (hi:i <= n) (hv:Blk H vb Zcl ⟨new⟩) (hnl:new.length=2) (hpl: ∀v∈new,Zv v=true) (hpx: ∀v∈xs,Zv v=true) (hne:a≠some ⟨vb,0,none⟩):
  FnW Tryz.prog Zben ⟨[.slice a n cap,.int .i64 (i:Int),.slice (some ⟨vb,0,none⟩) 1 1]⟩ H fun r H'=>∃a' cap',r= .slice a' (n+1) cap'∧cap' <= Zw∧Sh.Own H0 H' a' (n+1) cap' 2 Zcl (xs.take (2*i)++(new++xs.drop (2*i)))∧
   (∀m,a'=some ⟨m,0,none⟩->a=some ⟨m,0,none⟩∨H m=none)∧Keep (fun x=>a=some ⟨x,0,none⟩) H H':=by
 have hxl:=ho.len;have hle:=ho.le;unfold Zw at hcap;obtain ⟨it,i1,i2,i3⟩:=Zcsh;have fin: ∀(a':Option Addr) (cap':Nat) (H1:Heap),cap' <= Zw->Sh.Own H0 H1 a' (n+1) cap' 2 Zcl (xs.take (2*i)++(new++xs.drop (2*i)))->(∀m,a'=some ⟨m,0,none⟩->a=some ⟨m,0,none⟩∨H m=none)->Keep (fun x=>a=some ⟨x,0,none⟩) H H1->∀(v:Value),v= .slice a' (n+1) cap'->∀H2,Shut H H1 H2->
   ∃a' cap',v= .slice a' (n+1) cap'∧cap' <= Zw∧Sh.Own H0 H2 a' (n+1) cap' 2 Zcl (xs.take (2*i)++(new++xs.drop (2*i)))∧(∀m,a'=some ⟨m,0,none⟩->a=some ⟨m,0,none⟩∨H m=none)∧Keep (fun x=>a=some ⟨x,0,none⟩) H H2:=
  fun a' cap' H1 h1 h2 h3 h4 v hv H2 hs=>⟨a',cap',hv,h1,Zdoc h2 hs,h3,Zcvp h4 hs⟩
 refine Zdnv a n cap i (some ⟨vb,0,none⟩) 1 1 ?_;have e1:IntKind.wrap .i64 ((n:Int)+((1:Nat):Int))=((n+1:Nat):Int):=by rw [Zh]<;>omega
 have e2:IntKind.wrap .i64 ((i:Int)+((1:Nat):Int))=((i+1:Nat):Int):=by rw [Zh]<;>omega
 unfold Zbql;rw [e1,e2];refine ⟨by omega,by omega,ifF rfl (IfB.intro (fun hin=>?_) fun hin=>IfB.intro (fun hg=>?_) fun hg=>?_)⟩
 ·
  have hin:i=n:=by have:=eq_of_beq hin;omega
  subst hin;refine Zra (k:=1) (xc:=1) (new:=new) Zkm Zkm i1 i2 i3 (by decide) Zbtl rfl ho k0 (Reads.blk hv (by omega) fun j hj=>by simp) hpl (by omega) fun a' cap' H1 hcc h1 h2 h3 h4=>?_
  refine ⟨a',i+1,cap',rfl,fin a' cap' H1 (hcc hcap) ?_ h2 h3 _ rfl⟩;rw [YX (by omega),YCa (by omega),Yv]
  exact h1
 ·
  have hin:i<n:=by
   rcases Ys i n with h | h;exact h
   ·have:i=n:=by omega
    subst this;simp at hin
  have hg:cap<n+1:=by have:=of_decide_eq_true hg;omega
  refine ⟨by omega,by omega,?_⟩
  simp only [Int.toNat_natCast];have e3:IntKind.wrap .i64 (((n+1:Nat):Int) - (i:Int))=((n+1 - i:Nat):Int):=by rw [Zh]<;>omega
  rw [e3];have hr:Reads H a (i*2) (xs.take (i*2)):=ho.reads.take (by omega)
  refine AppW.zerosGrow Zkm Zdag i1 i2 i3 Zbtl rfl (by decide) (by decide) (by decide) (by omega) (by omega) hr (by omega) fun m cap' hm hge hcc=>?_
  have ein:i+(n+1 - i)=n+1:=by omega
  rw [ein] at hge ⊢;have km:=Zpz hm (.cells ⟨xs.take (i*2)++repL (n+1 - i) [.int .i64 0,.slice none 0 0]++repL (cap' - (n+1)) [.int .i64 0,.slice none 0 0]⟩ Zcl);have hbm:Blk (H.upd m (.cells ⟨xs.take (i*2)++repL (n+1 - i) [.int .i64 0,.slice none 0 0]++repL (cap' - (n+1)) [.int .i64 0,.slice none 0 0]⟩ Zcl (0,0))) m Zcl ⟨xs.take (i*2)++repL (n+1 - i) [.int .i64 0,.slice none 0 0]++repL (cap' - (n+1)) [.int .i64 0,.slice none 0 0]⟩:=Blk.upd_eq;generalize H.upd m (.cells ⟨xs.take (i*2)++repL (n+1 - i) [.int .i64 0,.slice none 0 0]++repL (cap' - (n+1)) [.int .i64 0,.slice none 0 0]⟩ Zcl (0,0))=H1 at km hbm ⊢;have z1l:(repL (n+1 - i) [Value.int .i64 0,.slice none 0 0]).length=(n+1 - i)*2:=by rw [Zgl];rfl
  have z2l:(repL (cap' - (n+1)) [Value.int .i64 0,.slice none 0 0]).length=(cap' - (n+1))*2:=by rw [Zgl];rfl
  generalize repL (n+1 - i) [Value.int .i64 0,.slice none 0 0]=z1 at hbm z1l;generalize repL (cap' - (n+1)) [Value.int .i64 0,.slice none 0 0]=z2 at hbm z2l;have htl:(xs.take (i*2)).length=i*2:=by rw [Yo];omega
  refine ⟨_,_,_,rfl,by omega,by omega,?_⟩
  simp only [Int.toNat_natCast];rw [if_neg (by omega)]
  try simp only [Option.map_some]
  rw [Zdj rfl,Yx];have hv1:Blk H1 vb Zcl ⟨new⟩:=km.blk hv fun h=>h.elim;refine Zgh.intro Zkm Zsp hbm (by simp only [Y1,Yb,htl,z1l,z2l];omega) (new:=new) ?_ hpl fun H2 hb2 ho2=>?_
  ·rw [show min 1 (n+1 - i)=1 by omega]
   exact Reads.blk hv1 (by omega) fun j hj=>by simp
  rw [Zbgy (pre:=xs.take (i*2)) (old:=z1.take 2) (post:=z1.drop 2++z2) (by rw [Yu,← Yu (z1.take 2),Y4]) htl (by rw [Yo];omega)] at hb2
  refine ⟨_,rfl,by omega,by omega,?_⟩
  simp only [Int.toNat_natCast];refine ⟨by omega,by omega,?_⟩
  simp only [Int.toNat_natCast];rw [if_neg (by omega),if_neg (by omega)]
  try simp only [Option.map_some]
  rw [Zdj rfl,Yx];obtain ⟨ma,rfl⟩:=ho.addr (by omega)
  obtain ⟨rest,hba,hrl⟩:=ho.blk rfl;have hma:ma≠m:=fun e=>by subst e;exact hba.some hm
  have hba2:Blk H2 ma Zcl ⟨xs++rest⟩:=(km.blk hba fun h=>h.elim).same (ho2 ma hma);try simp only [Option.map_some]
  rw [Zdj rfl,Yx];have hdl:(xs.drop (i*2)).length=(n - i)*2:=by rw [Yq];omega
  refine Zgh.intro Zkm Zsp hb2 (by simp only [Y1,Yb,htl,z1l,z2l,hnl,Yq];omega) (new:=xs.drop (i*2)) ?_ (fun v hv=>hpx v (List.mem_of_mem_drop hv)) fun H3 hb3 ho3=>?_
  ·rw [show min (n - i) (n+1 - (i+1))=n - i by omega]
   refine Reads.blk hba2 hdl fun j hj=>?_;simp only [YE];rw [Yd (by omega),YK]
  rw [Zbgy (pre:=xs.take (i*2)++new) (old:=z1.drop 2) (post:=z2) (by simp [Yu]) (by rw [Yb,htl,hnl];omega) (by rw [Yq,z1l,hdl];omega)] at hb3
  refine ⟨_,rfl,?_⟩;have kk:Keep (fun x=>(some ⟨ma,0,none⟩:Option Addr)=some ⟨x,0,none⟩) H H3:=by
   refine ⟨fun x hx hl=>?_,fun x hl=>?_⟩
   ·have:x≠m:=fun e=>by subst e;exact hl hm
    rw [ho3 x this,ho2 x this];exact km.same x (fun h=>h.elim) hl
   ·have:x≠m:=fun e=>by subst e;exact hl hm
    rw [ho3 x this,ho2 x this];exact km.live x hl
  refine fin (some ⟨m,0,none⟩) cap' H3 (by unfold Zw;omega) ?_ (fun x hx=>by cases hx;exact .inr hm) kk _ rfl
  refine ⟨by simp only [Yb,Yo,Yq,hnl];omega,by omega,.inr ⟨m,z2,rfl,k0.free hm,?_,by rw [z2l]⟩⟩
  have e4:2*i=i*2:=by omega
  rw [e4];have:(xs.take (i*2)++(new++xs.drop (i*2))++z2)=xs.take (i*2)++new++(xs.drop (i*2)++z2):=by simp [Yu]
  rw [this];exact hb3
 ·
  have hin:i<n:=by
   rcases Ys i n with h | h;exact h
   ·have:i=n:=by omega
    subst this;simp at hin
  have hg:n+1 <= cap:=by have:=of_decide_eq_false hg;omega
  obtain ⟨ma,rfl⟩:=ho.addr (by omega)
  obtain ⟨rest,hba,hrl⟩:=ho.blk rfl;have hvm:vb≠ma:=fun e=>hne (by rw [e])
  refine ⟨by omega,by omega,?_⟩
  simp only [Int.toNat_natCast];refine ⟨by omega,by omega,?_⟩
  simp only [Int.toNat_natCast];rw [if_neg (by omega)]
  try simp only [Option.map_some]
  rw [Zdj rfl,Yx];refine Zdiq Tryz.func114 (by kernel_rfl) (by kernel_rfl) (by kernel_rfl) (e:=Extern.SlicesOverlaps.overlaps #[Zeq,Zeq] #[Zbky]) (by kernel_rfl) ?_
  refine Zcqy Zkm Zsp hv hba hvm ⟨false,rfl,ifT rfl ⟨by omega,by omega,?_⟩⟩
  simp only [Int.toNat_natCast];refine ⟨by omega,by omega,?_⟩
  simp only [Int.toNat_natCast];rw [if_neg (by omega),if_neg (by omega)]
  try simp only [Option.map_some]
  rw [Zdj rfl,Zdj rfl,Yx,Yx];have htl:(xs.take (i*2)).length=i*2:=by rw [Yo];omega
  have hdl:(xs.drop (i*2)).length=(n - i)*2:=by rw [Yq];omega
  refine Zgh.intro Zkm Zsp hba (by simp only [Y1,Yb];omega) (new:=xs.drop (i*2)) ?_ (fun v hv=>hpx v (List.mem_of_mem_drop hv)) fun H2 hb2 ho2=>?_
  ·rw [show min (n+1 - i) (n+1 - (i+1))=n - i by omega]
   refine Reads.blk hba hdl fun j hj=>?_;simp only [YE];rw [Yd (by omega),YK]
  have hX: ∃Y old:List Value,xs.drop (i*2)++rest=Y++(old++rest.drop 2)∧Y.length=2∧old.length=(n - i)*2:=by
   refine ⟨(xs.drop (i*2)++rest).take 2,((xs.drop (i*2)++rest).drop 2).take ((n - i)*2),?_,by rw [Yo,Yb];omega,by rw [Yo,Yq,Yb];omega⟩
   have h1:rest.drop 2=((xs.drop (i*2)++rest).drop 2).drop ((n - i)*2):=by
    have hnil:(xs.drop (i*2)).drop (2+(n - i)*2)= []:=YCa (by omega)
    rw [List.drop_drop,List.drop_append,hnil,List.nil_append];congr 1;omega
   rw [h1,Y4,Y4]
  obtain ⟨Y,old,hY,hYl,holdl⟩:=hX;rw [Zbgy (pre:=xs.take (i*2)++Y) (old:=old) (post:=rest.drop 2) (by rw [Yu,← hY,← Yu,Y4]) (by rw [Yb,htl,hYl];omega) (by rw [holdl,hdl])] at hb2
  refine ⟨_,rfl,by omega,by omega,?_⟩
  simp only [Int.toNat_natCast];rw [if_neg (by omega)]
  try simp only [Option.map_some]
  rw [Zdj rfl,Yx];have hv2:Blk H2 vb Zcl ⟨new⟩:=hv.same (ho2 vb hvm);refine Zgh.intro Zkm Zsp hb2 (by simp only [Y1,Yb,htl,hYl,hdl,Yq,hrl];omega) (new:=new) ?_ hpl fun H3 hb3 ho3=>?_
  ·rw [show min 1 (n+1 - i)=1 by omega]
   exact Reads.blk hv2 (by omega) fun j hj=>by simp
  rw [Zbgy (pre:=xs.take (i*2)) (old:=Y) (post:=xs.drop (i*2)++rest.drop 2) (by simp [Yu]) htl (by rw [hYl,hnl])] at hb3
  refine ⟨_,rfl,?_⟩;have kk:Keep (fun x=>(some ⟨ma,0,none⟩:Option Addr)=some ⟨x,0,none⟩) H H3:=by
   refine ⟨fun x hx hl=>?_,fun x hl=>?_⟩
   ·have:x≠ma:=fun e=>hx (by rw [e])
    rw [ho3 x this,ho2 x this]
   by_cases e:x=ma;subst e;exact hb3.some;rw [ho3 x e,ho2 x e];exact hl
  refine fin (some ⟨ma,0,none⟩) cap H3 hcap ?_ (fun x hx=> .inl hx) kk _ rfl;refine ⟨by simp only [Yb,Yo,Yq,hnl];omega,by omega,.inr ⟨ma,rest.drop 2,rfl,ho.free rfl,?_,by rw [Yq];omega⟩⟩
  have e4:2*i=i*2:=by omega
  rw [e4];have:(xs.take (i*2)++(new++xs.drop (i*2))++rest.drop 2)=xs.take (i*2)++(new++(xs.drop (i*2)++rest.drop 2)):=by simp [Yu]
  rw [this];exact hb3
end Go.Proofs.YthhcfdpoiganhaaGreat
end
section
set_option maxRecDepth 100000
namespace Go.Proofs.YthhcfdpoiganhaaGreat
open Go.Sh
theorem Zclj {Z:Nat->Prop} {H:Heap} {os:List Raw} {xs:List Value} (h: ∀i r,os[i]? =some r->Ze Z H Zoh r (fun j=>xs[i*2+j]?)) {i:Nat} (hi:i<os.length):xs[i*2]? =some (.int .i64 (os[i]).1)∧∃a n c,xs[i*2+1]? =some (.slice a n c):=by have:=h i _ (Yc hi);simp only [Ze,and_true] at this;obtain ⟨⟨v,h1,h2⟩,⟨w,h3,h4⟩⟩:=this;simp only [Zb] at h2 h4;obtain ⟨rfl,_⟩:=h2;obtain ⟨a,n,c,rfl,_⟩:=h4;exact ⟨h1,a,n,c,h3⟩
theorem Zctp {Z:Nat->Prop} {H:Heap} {os:List Raw} {xs:List Value} (h: ∀i r,os[i]? =some r->Ze Z H Zoh r (fun j=>xs[i*2+j]?)) (hl:xs.length=os.length*2): ∀v∈xs,Zv v=true:=by
 intro v hv;obtain ⟨j,hj⟩:=Y3 hv;have hjl:j<xs.length:=by rcases Ys j xs.length with h | h;exact h;rw [Yf h] at hj;cases hj
 obtain ⟨h1,a,n,c,h2⟩:=Zclj h (i:=j/2) (by omega)
 by_cases e:j%2=0
 ·have:j/2*2=j:=by omega
  rw [this,hj] at h1;cases h1;rfl
 ·have:j/2*2+1=j:=by omega
  rw [this,hj] at h2;cases h2;rfl
def posO (k:Int):List Raw->Nat
 | []=>0
 | x::r=>if x.1<k then posO k r+1 else 0
theorem Zcbb (k:Int) (d:List UInt8): ∀l:List Raw,insO k d l=l.take (posO k l)++(k,d)::l.drop (posO k l)
 | []=>rfl
 | x::r=>by simp only [insO,posO];split;rw [Zcbb k d r];rfl;rfl
theorem Zcga (k:Int): ∀l:List Raw,posO k l <= l.length
 | []=>Yh _
 | x::r=>by simp only [posO];split;have:=Zcga k r;simp;omega;simp
theorem Zbpm {k:Int}: ∀(l:List Raw) (i:Nat),i <= l.length->(∀j (h:j<l.length),j<i->(l[j]).1<k)->(∀h:i<l.length,¬(l[i]).1<k)->posO k l=i
 | [],i,hi,_,_=>by simp at hi;subst hi;rfl
 | x::r,0,_,_,h2=>by
  have:=h2 (by simp)
  simp only [List.getElem_cons_zero] at this;simp only [posO,if_neg this]
 | x::r,i+1,hi,h1,h2=>by
  have h0:=h1 0 (by simp) (by omega)
  simp only [List.getElem_cons_zero] at h0;simp only [posO,if_pos h0];rw [Zbpm r i (by simpa using hi) (fun j h hj=>by have:=h1 (j+1) (by simpa using h) (by omega);exact this) (fun h=>by have:=h2 (by simpa using h);exact this)]
section
variable {Z0:Nat->Prop} {H0 H:Heap} {b:Nat} {Zn:Nat->Prop} {p:List Seg} {vp:Value} {cs:List UInt32} {ca:Option Addr} {cc:Nat} {os:List Raw} {oa:Option Addr} {oc:Nat}
theorem Zcze (h:AtI Z0 H0 H b Zn p vp cs ca cc os oa oc) {q:Nat} {T:TypeId} {c:List Value} {kd:Int} (hq:Blk H q T ⟨c⟩) (hk:c[1]? =some (.int .i64 kd)) (hn:os.length <= 1000) (hne: ∀x∈os,x.1≠kd):
  FnW Tryz.prog Zbbc ⟨[.slice oa os.length oc,.func (.func Zsk) #[] #[.pointer (some ⟨q,0,none⟩)]]⟩ H fun v H'=>Keep Nil H H'∧v= .int .i64 (if posO kd os<os.length then (posO kd os:Int) else -1):=by
 obtain ⟨xs,own,hc⟩:=h.others;refine Zdka oa os.length oc Zsk (.pointer (some ⟨q,0,none⟩)) ?_;refine ⟨fun k x Hx=>Keep Nil H Hx∧∃i:Nat,i <= os.length∧k=os.length - i∧x=((i:Int),())∧∀j (hj:j<os.length),j<i->(os[j]).1<kd,os.length,⟨Keep.refl _ _,0,YI _,rfl,rfl,fun j _ hj=>absurd hj (by omega)⟩,?_⟩
 rintro k x Hx ⟨kx,i,hi,rfl,rfl,hlt⟩ gE;dsimp only;unfold Zbrr;refine IfB.intro (fun h1=>?_) (fun h1=>?_)
 ·have h1:i<os.length:=by have:=of_decide_eq_true h1;omega
  obtain ⟨m,rfl⟩:=own.addr (by omega)
  have ownx:=Zlk own kx fun _ h=>h.elim;obtain ⟨rest,hbm,_⟩:=ownx.blk rfl;have hxl:=own.len;obtain ⟨c0,a1,n1,c1,hc1⟩:=Zclj hc h1;refine NilP.intro ⟨m,0,none⟩ rfl ⟨by omega,by omega,?_⟩
  simp only [Int.toNat_natCast];show elemAt _ _ 2 _;rw [Zjk];have g0:Hx.cell ⟨m,0+i*2,none⟩=some (.int .i64 (os[i]).1):=by
   rw [hbm.cell];simp only [YE];rw [Yx,Yd (by omega)];exact c0
  have g1:Hx.cell ⟨m,0+i*2+1,none⟩=some (.slice a1 n1 c1):=by
   rw [hbm.cell];simp only [YE];rw [Yx,Yd (by omega)];exact hc1
  refine ⟨_,g0,a1,n1,c1,g1,?_⟩;have hqx:=kx.blk hq fun h=>h.elim;refine Zdgf _ a1 n1 c1 q (newB fun nb Hb hnb kb cb hbn=>⟨_,Zbu hbn 0 rfl,kd,Zbu (kb.blk hqx fun h=>h.elim) 1 hk,fun Hc hs=>?_⟩);have kc:Keep Nil H Hc:=kx.trans (Zln kb hs);refine ⟨_,rfl,IfB.intro (fun hgt=>fun Hd hs2=>⟨Zln kc hs2,?_⟩) fun hng=>⟨os.length - (i+1),by omega,kc,i+1,by omega,rfl,?_,fun j hj hji=>?_⟩⟩
  ·have hgt:=of_decide_eq_true hgt;have:posO kd os=i:=Zbpm os i (by omega) hlt fun _=>by omega
   rw [this,if_pos h1]
  ·rw [Zh (by omega) (by omega)];simp
  ·rcases Ys j i with h | h;exact hlt j hj h
   ·have:j=i:=by omega
    subst this;have h2:=of_decide_eq_false hng;have h3:=hne _ (Yza hj);omega
 ·have h1:i=os.length:=by have:=of_decide_eq_false h1;omega
  subst h1;refine fun Hd hs=>⟨Zln kx hs,?_⟩;have:posO kd os=os.length:=Zbpm os os.length (by omega) hlt fun h=>absurd h (by omega)
  rw [this,if_neg (by omega)]
theorem AtI.insert (h:AtI Z0 H0 H b Zn p vp cs ca cc os oa oc) (hz0: ∀x,Z0 x->H0 x≠none) {H':Heap} (k:Keep (fun x=>oa=some ⟨x,0,none⟩) H H') {kd:Int} {d:List UInt8} {v:Value} {xs:List Value} (own:Sh.Own H0 H oa os.length oc 2 Zcl xs) (hc: ∀i r,os[i]? =some r->Ze (Or2 Z0 Zn) H Zoh r (fun j=>xs[i*2+j]?))
  (hkd:InR .i64 kd) (hv:Zb (Or2 Z0 Zn) H Zby d v) {i:Nat} (hi:i <= os.length) {oa':Option Addr} {oc':Nat} (ho:Sh.Own H0 H' oa' (os.length+1) oc' 2 Zcl (xs.take (2*i)++([.int .i64 kd,v]++xs.drop (2*i))))
  (hnew: ∀m,oa'=some ⟨m,0,none⟩->oa=some ⟨m,0,none⟩∨H m=none) (hcc:oc' <= Zw):AtI Z0 H0 H' b Zn p vp cs ca cc (os.take i++(kd,d)::os.drop i) oa' oc':=by
 have hS: ∀x,oa=some ⟨x,0,none⟩->H0 x=none∧¬Zn x∧ca≠some ⟨x,0,none⟩:=fun x hx=>⟨own.free hx,h.oz x hx,fun h2=>h.apart h2 hx⟩;have hz: ∀x,Or2 Z0 Zn x->Or2 Z0 Zn x∧H' x=H x:=fun x hx=>⟨hx,k.same x (fun hs=>by
  obtain ⟨h1,h2,_⟩:=hS x hs;rcases hx with hx | hx;exact hz0 x hx h1
  ·exact h2 hx) (h.zlive hz0 x hx)⟩
 have hxl:=own.len;have htl:(xs.take (2*i)).length=2*i:=by rw [Yo];omega
 have hol:(os.take i).length=i:=by rw [Yo];omega
 refine ⟨Zii h.keep k fun x hx=>(hS x hx).1,h.new.later k fun x hx hs=>(hS x hs).2.1 hx,h.bn,h.bz,Zb.ext hz _ _ _ h.path,Zlk h.comms k fun x hx=>(hS x hx).2.2,h.cz,h.clt,⟨xs.take (2*i)++([.int .i64 kd,v]++xs.drop (2*i)),?_,fun j r hj=>?_⟩,fun m hm hzm=>?_,hcc⟩
 ·have e:(os.take i++(kd,d)::os.drop i).length=os.length+1:=by rw [Yb,hol,List.length_cons,Yq];omega
  rw [e];exact ho
 ·change Raw at r;have hj:(os.take i++(kd,d)::os.drop i:List Raw)[j]? =some r:=hj;rcases Y9 j i with hlt | rfl | hgt
  ·rw [Yd (by omega),YU,if_pos hlt] at hj
   refine Ze.ext hz _ _ _ (Ze.congr (fun t ht=>?_) (hc j r hj));simp only [List.length_cons,List.length_nil] at ht;rw [Yd (by omega),YU,if_pos (by omega)]
  ·rw [Yg (by omega),hol,YUa] at hj
   simp only [List.getElem?_cons_zero,Option.some.injEq] at hj;subst hj;simp only [Ze,and_true];refine ⟨⟨.int .i64 kd,?_,?_⟩,⟨v,?_,?_⟩⟩
   ·rw [Yg (by omega),htl,show j*2+0 - 2*j=0 by omega];rfl
   simp only [Zb];exact ⟨rfl,WfI.of hkd⟩
   ·rw [Yg (by omega),htl,show j*2+(0+1) - 2*j=1 by omega];rfl
   exact Zb.ext hz _ _ _ hv
  ·rw [Yg (by omega),hol,show j - i=(j - i - 1)+1 by omega,List.getElem?_cons_succ,YK,show i+(j - i - 1)=j - 1 by omega] at hj
   refine Ze.ext hz _ _ _ (Ze.congr (fun t ht=>?_) (hc (j - 1) r hj));simp only [List.length_cons,List.length_nil] at ht;rw [Yg (by omega),htl,Yg (by simp only [List.length_cons,List.length_nil];omega),YK]
   congr 1;simp only [List.length_cons,List.length_nil];omega
 rcases hnew m hm with h1 | h1;exact h.oz m h1 hzm;exact (h.new m hzm).2.1 h1
end
end Go.Proofs.YthhcfdpoiganhaaGreat
end
section
set_option maxRecDepth 100000
namespace Go.Proofs.YthhcfdpoiganhaaGreat
open Go.Sh
abbrev Zre (s:RdS) (l:List Raw):RdS:=s.put (s.a.origin,s.a.path,s.a.next,s.a.hasMed,s.a.med,s.a.hasLocal,s.a.loc,s.a.atomic,s.a.hasMaker,s.a.makerAS,s.a.maker,s.a.comms,l)
theorem RdX.putO {Z0:Nat->Prop} {H0 H H1:Heap} {b:Nat} {four:Bool} {Zn:Nat->Prop} {vp:Value} {ca:Option Addr} {cc:Nat} {oa:Option Addr} {oc:Nat} {seen:List Bool} {v4 vm:Value} {h4:Bool} {s:RdS} (h:RdX Z0 H0 H b four Zn vp ca cc oa oc seen v4 vm h4 s) (hz0: ∀x,Z0 x->H0 x≠none)
  (kk:Keep (fun y=>oa=some ⟨y,0,none⟩) H H1) {os':List Raw} {oa':Option Addr} {oc':Nat} (a1:AtI Z0 H0 H1 b Zn s.a.path vp s.a.comms ca cc os' oa' oc') (hn: ∀m,oa'=some ⟨m,0,none⟩->oa=some ⟨m,0,none⟩∨H m=none) {l:Nat} (hl:os'.length=l) {K:Heap->Prop}
  (hK: ∀H2,RdX Z0 H0 H2 b four Zn vp ca cc oa' oc' seen v4 vm h4 (Zre s os')->(∀y,y≠b->H2 y=H1 y)->K H2):Zc H1 ⟨b,12,none⟩ (.slice oa' l oc') K:=by
 subst hl;have hb1:Blk H1 b Zea ⟨Zbg s four vp ca cc oa oc seen v4 vm h4⟩:=kk.blk h.blk h.blkO;refine Zc.blk hb1 (by simp only [Y1];rw [Zbre h.seen.1];decide) rfl (hK _ ?_ fun y hy=>Sh.upd_ne hy)
 have ho': ∀y,y≠b->(H1.upd b (.cells ((⟨Zbg s four vp ca cc oa oc seen v4 vm h4⟩:Array Value).setIfInBounds 12 (.slice oa' os'.length oc')) Zea (0,0))) y=H1 y:=fun y hy=>Sh.upd_ne hy;have hb2:Blk (H1.upd b (.cells ((⟨Zbg s four vp ca cc oa oc seen v4 vm h4⟩:Array Value).setIfInBounds 12 (.slice oa' os'.length oc')) Zea (0,0))) b Zea ⟨Zbg (Zre s os') four vp ca cc oa' oc' seen v4 vm h4⟩:=by
  have e:(⟨Zbg s four vp ca cc oa oc seen v4 vm h4⟩:Array Value).setIfInBounds 12 (.slice oa' os'.length oc')=⟨Zbg (Zre s os') four vp ca cc oa' oc' seen v4 vm h4⟩:=by apply Y2;simp only [YEa];rfl
  rw [e];exact Blk.upd_eq
 generalize H1.upd b (.cells ((⟨Zbg s four vp ca cc oa oc seen v4 vm h4⟩:Array Value).setIfInBounds 12 (.slice oa' os'.length oc')) Zea (0,0))=H2 at ho' hb2;have k12:Keep (fun y=>y=b) H1 H2:=⟨fun y hy _=>ho' y hy,fun y hy=>by
  by_cases e:y=b;subst e;exact hb2.some
  ·rw [ho' y e];exact hy⟩
 have hcb:oa'≠some ⟨b,0,none⟩:=fun e=>by rcases hn b e with h1 | h1;exact h.blkO h1;exact h.blk.some h1
 have a2:=a1.step hz0 k12 fun y hy=>by subst hy;exact ⟨a1.bn,a1.bz,h.blkC,hcb⟩
 have hz: ∀y,Or2 Z0 Zn y->Or2 Z0 Zn y∧H2 y=H y:=fun y hy=>⟨hy,by
  have hl:=h.at_.zlive hz0 y hy;rw [ho' y (fun e=>by
   subst e;rcases hy with hy | hy;exact hz0 y hy h.at_.bn
   ·exact h.at_.bz hy)]
  refine kk.same y (fun hc=>?_) hl;obtain ⟨xs,own,_⟩:=h.at_.others;rcases hy with hy | hy;exact hz0 y hy (own.free hc)
  ·exact h.at_.oz y hc hy⟩
 exact ⟨a2,hb2,h.seen,h.p4.ext hz,h.m4.ext hz⟩
theorem Zdmi {Z0:Nat->Prop} {H0 H:Heap} {b:Nat} {four:Bool} {s:RdS} {d:List UInt8} {a:Option Addr} {n c:Nat} (hz0: ∀x,Z0 x->H0 x≠none) (hy:Lyd H0) (hd:Zb Z0 H0 Zby d (.slice a n c)) (hdl:d.length <= 100000) (h:Rd Z0 H0 H b four s) (fl sz:Int) {kd:Nat} (hkd:kd<256) (hne: ∀x∈s.a.others,x.1≠(kd:Int)):
  FnW Tryz.prog Zbfj ⟨[.pointer (some ⟨b,0,none⟩),.agg ⟨pcV fl kd a n c sz⟩]⟩ H fun v H'=>v= .tuple ⟨[]⟩∧Rd Z0 H0 H' b four (Zie kd d s)∧Calm H H':=by
 obtain ⟨Zn,vp,ca,cc,oa,oc,seen,v4,vm,h4,h⟩:=h;obtain ⟨hn,hnc,hcm2⟩:=Zko hd;have hkl: ∀x,H0 x≠none->H x≠none:=h.at_.keep.live;have spec:Zie kd d s=if 8 <= s.a.others.length∨255<d.length then s.found 1 else Zre s (insO kd d s.a.others):=rfl
 have fin: ∀(s':RdS),s'=Zie kd d s->∀H1,Rd Z0 H0 H1 b four s'->Calm H H1->∀H2,Shut H H1 H2->Value.tuple ⟨[]⟩= .tuple ⟨[]⟩∧Rd Z0 H0 H2 b four (Zie kd d s)∧Calm H H2:=by rintro s' rfl H1 h1 c1 H2 hs;exact ⟨rfl,h1.fin hz0 hkl c1 hs⟩
 refine Zcog b fl kd a n c sz (newB fun p H1 hp kp cp hbp=>?_);have q1:=h.kept hz0 kp;refine ⟨oa,s.a.others.length,oc,q1.get 12 rfl,?_⟩;have bad:(8 <= s.a.others.length∨255<d.length)->Zrf b p true H1 fun v H1=>∀H2,Shut H H1 H2->v= .tuple ⟨[]⟩∧Rd Z0 H0 H2 b four (Zie kd d s)∧Calm H H2:=fun hb=>by unfold Zrf;refine ifT rfl ((Zli hz0 ⟨_,_,_,_,_,_,_,_,_,_,q1⟩ 1).mono fun v H3 hm=>?_);obtain ⟨rfl,r3,c3⟩:=hm;exact ⟨rfl,fin _ (by rw [spec,if_pos hb]) H3 r3 (cp.trans c3)⟩
 refine IfB.intro (fun h8=>bad (.inl (by have:=of_decide_eq_true h8;omega))) fun h8=>?_
 have h8:s.a.others.length<8:=by have:=of_decide_eq_false h8;omega
 refine ⟨a,n,c,Zbu hbp 2 rfl,?_⟩;by_cases h255:255<d.length
 ·rw [decide_eq_true (by omega)];exact bad (.inr h255)
 rw [decide_eq_false (by omega)]
 rw [if_neg (by omega)] at spec
 unfold Zrf;refine ifF rfl ⟨oa,s.a.others.length,oc,q1.get 12 rfl,?_⟩;have hkr:InR .i64 (kd:Int):=⟨by simp only [loI];omega,by simp only [hiI];omega⟩
 refine (Zcze (kd:=(kd:Int)) q1.at_ hbp rfl (by omega) hne).mono fun v H4 hm=>?_
 obtain ⟨k4,rfl⟩:=hm;have q4:=q1.kept hz0 k4;have hbp4:=k4.blk hbp fun h=>h.elim;have c4:=cp.trans (Zem k4);have hpl:=Zcga (kd:Int) s.a.others;have j1:Zbfu b p ((posO (kd:Int) s.a.others:Nat):Int) H4 fun v H1=>∀H2,Shut H H1 H2->v= .tuple ⟨[]⟩∧Rd Z0 H0 H2 b four (Zie kd d s)∧Calm H H2:=by
  unfold Zbfu;have hbp':p≠b:=fun e=>by have h1:=q4.blk;unfold Blk at h1 hbp4;rw [e,h1] at hbp4;cases hbp4
  refine ⟨[b,p],fun y hym=>?_,by simp,oa,_,oc,q4.get 12 rfl,by simp,kd,Zbu hbp4 1 rfl,a,n,c,Zbu hbp4 2 rfl,?_⟩
  simp only [Yj,YBa,or_false] at hym;rcases hym with rfl | rfl;exact YR.1 q4.blk.some;exact YR.1 hbp4.some;have keptK: ∀{S:Nat->Prop} {H':Heap},Keep S H4 H'->¬S b->¬S p->Zes [b,p] H4 H':=fun {S H'} k hq hb y hym=>by simp only [Yj,YBa,or_false] at hym;rcases hym with rfl | rfl;exact ⟨YR.1 q4.blk.some,k.same _ hq q4.blk.some⟩;exact ⟨YR.1 hbp4.some,k.same _ hb hbp4.some⟩
  refine (Zchs (d:=d) (Zia hz0 q4.at_.keep) (hy.keep q4.at_.keep) (Ziv hz0 hd q4.at_.keep) (by omega)).mono fun v H6 hm=>?_
  obtain ⟨k6,Z1,hf6,hv6⟩:=hm;have q6:=q4.more hz0 k6 hf6;obtain ⟨va,vn,vc,rfl⟩: ∃qa qn qc,v= .slice qa qn qc:=by simp only [Zb] at hv6;obtain ⟨pa,pn,pc,e,_⟩:=hv6;exact ⟨pa,pn,pc,e⟩
  have hv6':Zb (Or2 Z0 (Or2 Zn Z1)) H6 Zby d (.slice va vn vc):=Zb.ext (fun x hx=>⟨hx.elim .inl fun h=> .inr (.inr h),rfl⟩) _ _ _ hv6;refine ⟨va,vn,vc,rfl,keptK k6 (fun h=>h) (fun h=>h),newB fun nb H7 hnb k7 c7 hbn=>?_⟩;have q7:=q6.kept hz0 k7;have hv7:Zb (Or2 Z0 (Or2 Zn Z1)) H7 Zby d (.slice va vn vc):=Zb.ext (fun x hx=>⟨hx,k7.same x (fun h=>h.elim) (q6.at_.zlive hz0 x hx)⟩) _ _ _ hv6';obtain ⟨xs,own,hc⟩:=q7.at_.others;have own6:=q6.at_.others;have hna:oa≠some ⟨nb,0,none⟩:=fun e=>by obtain ⟨cx,hcx⟩:=q6.at_.liveO nb e;exact hcx.some hnb
  refine (Zcrw own q7.at_.keep q7.at_.olt (by omega) hpl hbn rfl (by simp [Zv]) (Zctp hc own.len) hna).mono fun r H8 hm=>?_
  obtain ⟨oa',oc',rfl,hcc,own8,hnew,k8⟩:=hm;have k48:Keep (fun x=>oa=some ⟨x,0,none⟩) H4 H8:=((k6.trans k7).mono fun _ h=>h.elim).trans k8;have hbo:oa≠some ⟨p,0,none⟩:=fun e=>by obtain ⟨cx,hcx⟩:=q4.at_.liveO p e;unfold Blk at hcx hbp4;rw [hbp4] at hcx;cases hcx
  refine ⟨oa',_,oc',rfl,keptK k48 q4.blkO hbo,?_⟩;have a8:=q7.at_.insert hz0 k8 own hc hkr hv7 hpl own8 hnew hcc;refine q7.putO hz0 k8 a8 hnew (by simp only [Yb,Yo,List.length_cons,Yq];omega) fun H9 x9 ho9=>?_
  refine fin (Zre s (s.a.others.take (posO (kd:Int) s.a.others)++((kd:Int),d)::s.a.others.drop (posO (kd:Int) s.a.others))) (by rw [spec,Zcbb]) H9 ⟨_,_,_,_,_,_,_,_,_,_,x9⟩ ?_
  refine ((((c4.trans (Zem k6)).trans c7).trans (Zbqn k8 fun y hy1=>?_))).trans fun y T cx hb' t1 t2 t3=>?_;obtain ⟨cx,hcx⟩:=q7.at_.liveO y hy1;exact ⟨_,cx,hcx,.inr (.inr rfl)⟩;refine hb'.same (ho9 y fun e=>?_);subst e;have h1:=k8.blk q7.blk q7.blkO;unfold Blk at h1 hb';rw [h1] at hb';cases hb';exact t1 rfl
 refine ⟨_,rfl,IfB.intro (fun hlt=>?_) fun hge=>?_⟩
 ·have hlt:=of_decide_eq_true hlt;have e:posO (kd:Int) s.a.others=s.a.others.length:=by by_cases hh:posO (kd:Int) s.a.others<s.a.others.length;rw [if_pos hh] at hlt;omega;omega
  refine ⟨oa,s.a.others.length,oc,q4.get 12 rfl,?_⟩;rw [e] at j1;exact j1
 ·have hge:=of_decide_eq_false hge;have e:posO (kd:Int) s.a.others<s.a.others.length:=by by_cases hh:posO (kd:Int) s.a.others<s.a.others.length;exact hh;rw [if_neg hh] at hge;omega
  rw [if_pos e];exact j1
end Go.Proofs.YthhcfdpoiganhaaGreat
end
section
set_option maxRecDepth 100000
namespace Go.Proofs.YthhcfdpoiganhaaGreat
open Go.Sh
structure InvS (s:RdS):Prop where
 p:2∉s.seen->s.a.path= []
 at_:6∉s.seen->s.a.atomic=false
 q:17∉s.seen->s.p4=none
 c:8∉s.seen->s.a.comms= []
 o: ∀x∈s.a.others,∃k∈s.seen,x.1=(k:Int)
 pk:Zbh s.a.path=true
 qk: ∀q,s.p4=some q->Zbh q=true
 og:0 <= s.a.origin∧s.a.origin <= 2
 w:s.worst <= 2
theorem inv0:InvS rd0:=⟨fun _=>rfl,fun _=>rfl,fun _=>rfl,fun _=>rfl,fun x hx=>by simp [rd0,Zfe,Za.others] at hx,rfl,fun q h=>(by cases h),by decide,by decide⟩
theorem InvS.found {s:RdS} (h:InvS s) (w:Nat) (hw:w <= 2):InvS (s.found w):=⟨h.p,h.at_,h.q,h.c,h.o,h.pk,h.qk,h.og,by have:=h.w;show max s.worst w <= 2;omega⟩
theorem InvS.see {s:RdS} (h:InvS s) (k:Nat):InvS (s.see k):=
 ⟨fun hn=>h.p fun hm=>hn (Yi _ hm),fun hn=>h.at_ fun hm=>hn (Yi _ hm),fun hn=>h.q fun hm=>hn (Yi _ hm),fun hn=>h.c fun hm=>hn (Yi _ hm),fun x hx=>by
  obtain ⟨k',h1,h2⟩:=h.o x hx;exact ⟨k',Yi _ h1,h2⟩,h.pk,h.qk,h.og,h.w⟩
theorem InvS.ite {c:Prop} [Decidable c] {a b:RdS} (h1:c->InvS a) (h2: ¬c->InvS b):InvS (if c then a else b):=by split;exact h1 ‹_›;exact h2 ‹_›
theorem Zcol {four:Bool} {kind:Nat} {d:List UInt8} {s:RdS} (h:InvS s) (hk:kind∈s.seen):InvS (oneF four kind d s):=by
 unfold oneF;obtain ⟨⟨origin,path,nxt,hasMed,med,hasLocal,loc,atomic,hasMaker,makerAS,maker,comms,others⟩,worst,seen,p4,m4⟩:=s;obtain ⟨hp,hat,hq,hc,ho,hpk,hqk,hog,hw⟩:=h;simp only [Za.path,Za.atomic,Za.comms,Za.others,Za.origin] at hp hat hq hc ho hpk hqk hog hw hk;have put: ∀(o':Int) (n':UInt32) (hm:Bool) (m':UInt32) (hk':Bool) (as' mk':UInt32),(0 <= o'∧o' <= 2)->InvS (RdS.put ⟨(origin,path,nxt,hasMed,med,hasLocal,loc,atomic,hasMaker,makerAS,maker,comms,others),worst,seen,p4,m4⟩ (o',path,n',hm,m',hasLocal,loc,atomic,hk',as',mk',comms,others)):=fun _ _ _ _ _ _ _ hog=>⟨hp,hat,hq,hc,ho,hpk,hqk,hog,hw⟩;have same:InvS ⟨(origin,path,nxt,hasMed,med,hasLocal,loc,atomic,hasMaker,makerAS,maker,comms,others),worst,seen,p4,m4⟩:=⟨hp,hat,hq,hc,ho,hpk,hqk,hog,hw⟩
 refine InvS.ite (fun e=>InvS.ite (fun h2=>put _ _ _ _ _ _ _ ⟨by omega,by omega⟩) fun _=>same.found _ (by decide)) fun _=>InvS.ite (fun e=>?_) fun _=>InvS.ite (fun e=>InvS.ite (fun _=>put _ _ _ _ _ _ _ hog) fun _=>same.found _ (by decide)) fun _=>InvS.ite (fun e=>InvS.ite (fun _=>put _ _ _ _ _ _ _ hog) fun _=>same.found _ (by decide)) fun _=>
  InvS.ite (fun e=>InvS.ite (fun _=>⟨hp,fun hn=>absurd (e▸hk) hn,hq,hc,ho,hpk,hqk,hog,hw⟩) fun _=>same.found _ (by decide)) fun _=>InvS.ite (fun e=>InvS.ite (fun _=>put _ _ _ _ _ _ _ hog) fun _=>same.found _ (by decide)) fun _=>InvS.ite (fun e=>InvS.ite (fun _=>⟨hp,hat,hq,fun hn=>absurd (e▸hk) hn,ho,hpk,hqk,hog,hw⟩) fun _=>same.found _ (by decide)) fun _=>
  InvS.ite (fun e=>InvS.ite (fun _=>same) fun _=>?_) fun _=>InvS.ite (fun e=>InvS.ite (fun _=>same) fun _=>InvS.ite (fun _=>⟨hp,hat,hq,hc,ho,hpk,hqk,hog,hw⟩) fun _=>same.found _ (by decide)) fun _=>same
 ·cases hr:Zew four d with
  | none=>exact same.found _ (by decide)
  | some p'=>exact ⟨fun hn=>absurd (e▸hk) hn,hat,hq,hc,ho,Zbxc hr,hqk,hog,hw⟩
 ·cases hr:Zew true d with
  | none=>exact same.found _ (by decide)
  | some p'=>exact ⟨hp,hat,fun hn=>absurd (e▸hk) hn,hc,ho,hpk,fun q hq'=>(by cases hq';exact Zbxc hr),hog,hw⟩
theorem Zdgc {four:Bool} {fl kind:Nat} {d:List UInt8} {s s':RdS} (h:InvS s) (ht:Zce four fl kind d s=some s'):InvS s':=by
 unfold Zce at ht;split at ht;cases ht;exact h.found _ (by decide)
 ·split at ht
  ·split at ht;cases ht;exact Zcol (h.see kind) (by simp [RdS.see])
   cases ht;exact (h.see kind).found _ (by decide)
  ·split at ht;cases ht
   ·split at ht
    ·cases ht;have h1:=h.see kind;unfold Zie;refine InvS.ite (fun _=>h1.found _ (by decide)) fun _=>⟨h1.p,h1.at_,h1.q,h1.c,fun x hx=>?_,h1.pk,h1.qk,h1.og,h1.w⟩
     rcases Zcfd _ hx with rfl | hx;exact ⟨kind,by simp [RdS.put,RdS.see],rfl⟩
     exact h1.o x hx
    cases ht;exact h.see kind
theorem Zcut {s:RdS} {four:Bool} {vp:Value} {ca:Option Addr} {cc:Nat} {oa:Option Addr} {oc:Nat} {seen:List Bool} {v4 vm:Value} {h4:Bool} {kd:Nat} (hl:seen.length=256) (hk:kd<256):
  (Zbg s four vp ca cc oa oc seen v4 vm h4).set (15+kd) (.bool true)=Zbg (s.see kd) four vp ca cc oa oc (seen.set kd true) v4 vm h4:=by
 have e0:seen=seen.take kd++seen[kd]::seen.drop (kd+1):=by rw [← YIa (by omega),Y4]
 have e1:seen.set kd true=seen.take kd++true::seen.drop (kd+1):=by rw [List.set_eq_take_append_cons_drop,if_pos (by omega)]
 have e13:(attV s.a vp ca cc oa oc).length=13:=rfl;have e2:seen.map Value.bool=(seen.take kd).map Value.bool++ .bool seen[kd]::(seen.drop (kd+1)).map Value.bool:=by rw [← YG,← Yxa,← e0]
 have e3:(s.see kd).a=s.a:=rfl;have e4:(s.see kd).worst=s.worst:=rfl;rw [Zbfl (pre:=attV s.a vp ca cc oa oc++(.bool four:: .int .i64 (s.worst:Int)::(seen.take kd).map Value.bool)) (x:= .bool seen[kd]) (post:=(seen.drop (kd+1)).map Value.bool++[v4,vm,.bool h4]) (by unfold Zbg;rw [e2];simp) (by simp [e13,hl];omega)]
 unfold Zbg;rw [e1,e3,e4];simp
theorem Zcoe {seen:List Bool} {l:List Nat} {kd:Nat} (h:Zbfw seen l) (hk:kd<256):Zbfw (seen.set kd true) (kd::l):=by
 refine ⟨by rw [Yna];exact h.1,fun k hk'=>?_⟩
 have hl:=h.1;have h2:=h.2 k hk';simp only [Y6] at h2 ⊢;rw [YA];by_cases e:kd=k
 ·subst e;rw [if_pos rfl,if_pos (by omega)]
  simp
 ·rw [if_neg e,h2];have:(k∈kd::l)↔(k∈l):=by simp only [Yj];exact ⟨fun h=>h.resolve_left fun e'=>e e'.symm,.inr⟩
  simp only [this]
abbrev Zki (Z0:Nat->Prop) (H0 H:Heap) (b:Nat) (four:Bool) (r:Option RdS) (v:Value) (H':Heap):Prop:=
 Calm H H'∧match r with
 | some s'=>v= .bool true∧Rd Z0 H0 H' b four s'
 | none=>v= .bool false∧∃s',Rd Z0 H0 H' b four s'
theorem Zdnh {Z0:Nat->Prop} {H0 H:Heap} {b:Nat} {four:Bool} {s:RdS} {d:List UInt8} {a:Option Addr} {n c:Nat} (hz0: ∀x,Z0 x->H0 x≠none) (hy:Lyd H0) (hd:Zb Z0 H0 Zby d (.slice a n c)) (hdl:d.length <= 100000) (h:Rd Z0 H0 H b four s) (hi:InvS s) {fl:Nat} (hfl:fl=0∨fl=64∨fl=128∨fl=192) (sz:Int) {kd:Nat} (hkd:kd<256):
  FnW Tryz.prog Ztn ⟨[.pointer (some ⟨b,0,none⟩),.agg ⟨pcV (fl:Int) kd a n c sz⟩]⟩ H (Zki Z0 H0 H b four (Zce four fl kd d s)):=by
 obtain ⟨Zn,vp,ca,cc,oa,oc,seen,v4,vm,h4,h⟩:=h;have hkl: ∀x,H0 x≠none->H x≠none:=h.at_.keep.live;have done: ∀v H',Zki Z0 H0 H b four (Zce four fl kd d s) v H'->∀H2,Shut H H' H2->Zki Z0 H0 H b four (Zce four fl kd d s) v H2:=fun v H' ⟨h1,h2⟩ H2 hs=>by
  refine ⟨Zblf h1 hs,?_⟩;cases ht:Zce four fl kd d s with
  | none=>
   rw [ht] at h2;obtain ⟨h3,s',h4⟩:=h2;exact ⟨h3,s',(h4.fin hz0 hkl h1 hs).1⟩
  | some s'=>
   rw [ht] at h2;exact ⟨h2.1,(h2.2.fin hz0 hkl h1 hs).1⟩
 have some_: ∀{s':RdS} {H':Heap},Zce four fl kd d s=some s'->Rd Z0 H0 H' b four s'->Calm H H'->∀H2,Shut H H' H2->Zki Z0 H0 H b four (Zce four fl kd d s) (.bool true) H2:=fun {s' H'} ht hr hc=>done _ _ ⟨hc,by rw [ht];exact ⟨rfl,hr⟩⟩
 have hkr:InR .i64 (kd:Int):=⟨by simp only [loI];omega,by simp only [hiI];omega⟩
 refine Zcsq b (fl:Int) kd a n c sz (newB fun p H1 hp kp cp hbp=>?_);have q1:=h.kept hz0 kp;refine ⟨kd,Zbu hbp 1 rfl,by omega,by omega,?_⟩
 simp only [Int.toNat_natCast,Yta];refine ⟨_,q1.get (15+kd) (Zbzd q1.seen.1 hkd),?_⟩;rw [q1.seen.2 kd hkd];refine IfB.intro (fun hs=>?_) fun hs=>?_;have hs:=of_decide_eq_true hs;refine (Zli hz0 ⟨_,_,_,_,_,_,_,_,_,_,q1⟩ 1).mono fun v H2 hm=>?_;obtain ⟨rfl,r2,c2⟩:=hm;exact ⟨rfl,some_ (by unfold Zce;rw [if_pos hs]) r2 (cp.trans c2)⟩
 have hs:=of_decide_eq_false hs;refine ⟨kd,Zbu hbp 1 rfl,by omega,by omega,?_⟩
 simp only [Int.toNat_natCast,Yta];refine q1.st (15+kd) (by omega) rfl fun H3 hb3 ho3=>?_
 rw [Zcut q1.seen.1 hkd] at hb3;have q3:RdX Z0 H0 H3 b four Zn vp ca cc oa oc (seen.set kd true) v4 vm h4 (s.see kd):=q1.turn hz0 ho3 hb3 rfl rfl q1.at_.path (Zcoe q1.seen hkd) q1.p4 q1.m4;have c3:=cp.trans (q1.calmB ho3);have hpb:p≠b:=fun e=>by have h1:=q1.blk;unfold Blk at h1 hbp;rw [e,h1] at hbp;cases hbp
 have hbp3:Blk H3 p Zkh ⟨pcV (fl:Int) kd a n c sz⟩:=hbp.same (ho3 p hpb);refine ⟨kd,Zbu hbp3 1 rfl,(Zdci kd hkr (hy.keep q3.at_.keep)).mono fun v H4 hm=>?_⟩;obtain ⟨k4,rfl⟩:=hm;have q4:=q3.kept hz0 k4;have c4:=c3.trans (Zem k4);have hbp4:=k4.blk hbp3 fun h=>h.elim;refine ⟨Zcq kd,Zfk kd,rfl,?_⟩;have spec:Zce four fl kd d s=if Zfk kd=true then (if (fl:Int)=Zcq kd then some (oneF four kd d (s.see kd)) else some ((s.see kd).found 2)) else if fl<128 then none else if fl=192 then some (Zie kd d (s.see kd)) else some (s.see kd):=by unfold Zce;rw [if_neg hs]
 have r4:Rd Z0 H0 H4 b four (s.see kd):=⟨_,_,_,_,_,_,_,_,_,_,q4⟩;cases hk:Zfk kd with
 | false=>
  rw [hk,if_neg (by simp)] at spec
  refine ifT rfl ⟨_,Zbu hbp4 0 rfl,?_⟩;have b128:((Zhq .u8 (fl:Int) 128)==0)=decide (fl<128):=by rcases hfl with rfl | rfl | rfl | rfl<;>decide
  rw [b128];unfold Zbdk;refine IfB.intro (fun hlt=>?_) fun hge=>?_;have hlt:=of_decide_eq_true hlt;exact done _ _ ⟨c4,by rw [spec,if_pos hlt];exact ⟨rfl,_,r4⟩⟩
  ·have hge:=of_decide_eq_false hge;rw [if_neg hge] at spec;refine ifT rfl ⟨_,Zbu hbp4 0 rfl,?_⟩;have b64:((Zhq .u8 (fl:Int) 64) !=0)=decide (fl=192):=by rcases hfl with rfl | rfl | rfl | rfl;omega;omega;decide;decide
   rw [b64];unfold Zbbr;refine IfB.intro (fun h192=>?_) fun h192=>?_
   ·have h192:=of_decide_eq_true h192;rw [if_pos h192] at spec;refine ⟨_,Zbu hbp4 0 rfl,_,Zbu hbp4 1 rfl,a,n,c,Zbu hbp4 2 rfl,_,Zbu hbp4 3 rfl,?_⟩;refine (Zdmi hz0 hy hd hdl r4 (fl:Int) sz hkd (fun x hx e=>?_)).mono fun v H5 hm=>?_
    ·obtain ⟨k,h1,h2⟩:=hi.o x hx;rw [h2] at e;have:k=kd:=by omega
     subst this;exact hs h1
    obtain ⟨rfl,r5,c5⟩:=hm;exact ⟨rfl,some_ spec r5 (c4.trans c5)⟩
   ·have h192:=of_decide_eq_false h192;rw [if_neg h192] at spec;exact ifT rfl (some_ spec r4 c4)
 | true=>
  rw [hk,if_pos rfl] at spec;refine ifF rfl ?_;unfold Zbdk;refine ifF rfl (ifF rfl ?_);unfold Zbbr;refine ifF rfl (ifF rfl ⟨_,Zbu hbp4 0 rfl,?_⟩);have bad:(fl:Int)≠Zcq kd->FnW Tryz.prog Zht ⟨[.pointer (some ⟨b,0,none⟩),.int .i64 2]⟩ H4 fun v H5=>v= .tuple ⟨[]⟩∧∀H2,Shut H H5 H2->Zki Z0 H0 H b four (Zce four fl kd d s) (.bool true) H2:=fun hb=>
   (Zli hz0 r4 2).mono fun v H5 hm=>by obtain ⟨rfl,r5,c5⟩:=hm;exact ⟨rfl,some_ (by rw [spec,if_neg hb]) r5 (c4.trans c5)⟩
  refine IfB.intro (fun hne=>bad (fun e=>by rw [e] at hne;simp at hne)) fun he=>?_
  have he:(fl:Int)=Zcq kd:=by simp at he;exact he.symm
  rw [if_pos he] at spec;refine ⟨_,Zbu hbp4 1 rfl,?_⟩;have hse:kd∈(s.see kd).seen:=by simp [RdS.see]
  have oth: ∀k,k≠kd->k∉s.seen->k∉(s.see kd).seen:=fun k h1 h2 h3=>by simp only [RdS.see,Yj] at h3;exact h3.elim h1 h2
  have may:(kd=6∨kd=7∨kd=17∨kd=18)->Zkj b p true H4 fun v H1=>∀H2,Shut H H1 H2->Zki Z0 H0 H b four (Zce four fl kd d s) v H2:=fun hm=>by
   unfold Zkj;refine ifT rfl ⟨_,Zbu hbp4 0 rfl,_,Zbu hbp4 1 rfl,a,n,c,Zbu hbp4 2 rfl,_,Zbu hbp4 3 rfl,?_⟩;refine (Zddc hz0 hy hd hdl r4 (fl:Int) sz hm (fun e=>hi.at_ (e▸hs)) (fun e=>hi.q (e▸hs))).mono fun v H5 hv=>?_;obtain ⟨ok,rfl,c5,r5,h5⟩:=hv;refine ⟨ok,rfl,?_⟩;unfold Zbsj;cases ok with
   | true=>exact ifF rfl (some_ spec (by rw [if_pos rfl] at r5;exact r5) (c4.trans c5))
   | false=>
    rw [if_neg (by simp)] at r5
    refine ifT rfl ((Zli hz0 r5 1).mono fun v H6 hv=>?_);obtain ⟨rfl,r6,c6⟩:=hv;exact ⟨rfl,some_ (by rw [spec,h5 rfl]) r6 ((c4.trans c5).trans c6)⟩
  have must:(kd=1∨kd=2∨kd=3∨kd=4∨kd=5∨kd=8)->Zkj b p false H4 fun v H1=>∀H2,Shut H H1 H2->Zki Z0 H0 H b four (Zce four fl kd d s) v H2:=fun hm=>by
   unfold Zkj;refine ifF rfl ⟨_,Zbu hbp4 0 rfl,_,Zbu hbp4 1 rfl,a,n,c,Zbu hbp4 2 rfl,_,Zbu hbp4 3 rfl,?_⟩;have hcl:(s.see kd).a.comms.length <= 1000∨kd≠8:=by by_cases e:kd=8;left;have:s.a.comms= []:=hi.c (e▸hs);show s.a.comms.length <= 1000;rw [this];simp;exact .inr e
   refine (Zdjf hz0 hy hd hdl hcl r4 (fl:Int) sz hm (fun e=>hi.p (e▸hs))).mono fun v H5 hv=>?_;obtain ⟨ok,rfl,c5,r5,h5⟩:=hv;refine ⟨ok,rfl,?_⟩;unfold Zcii;cases ok with
   | true=>exact ifF rfl (some_ spec (by rw [if_pos rfl] at r5;exact r5) (c4.trans c5))
   | false=>
    rw [if_neg (by simp)] at r5
    refine ifT rfl ((Zli hz0 r5 2).mono fun v H6 hv=>?_);obtain ⟨rfl,r6,c6⟩:=hv;exact ⟨rfl,some_ (by rw [spec,h5 rfl]) r6 ((c4.trans c5).trans c6)⟩
  have eq_: ∀m:Nat,((kd:Int)==(m:Int))=decide (kd=m):=fun m=>by by_cases e:kd=m;subst e;simp;rw [decide_eq_false e];exact beq_eq_false_iff_ne.2 fun h=>e (by omega)
  have e6:((kd:Int)==6)=decide (kd=6):=eq_ 6;have e7:((kd:Int)==7)=decide (kd=7):=eq_ 7;have e17:((kd:Int)==17)=decide (kd=17):=eq_ 17;have e18:((kd:Int)==18)=decide (kd=18):=eq_ 18;refine IfB.intro (fun h6=>?_) fun h6=>IfB.intro (fun h7=>?_) fun h7=>IfB.intro (fun h17=>?_) fun h17=>?_;rw [h6];exact may (.inl (by rw [e6] at h6;exact of_decide_eq_true h6))
  rw [h7];exact may (.inr (.inl (by rw [e7] at h7;exact of_decide_eq_true h7)))
  rw [h17];exact may (.inr (.inr (.inl (by rw [e17] at h17;exact of_decide_eq_true h17))))
  rw [e6] at h6;rw [e7] at h7;rw [e17] at h17;have h6:=of_decide_eq_false h6;have h7:=of_decide_eq_false h7;have h17:=of_decide_eq_false h17;by_cases h18:kd=18;rw [e18,decide_eq_true h18];exact may (.inr (.inr (.inr h18)));rw [e18,decide_eq_false h18];refine must ?_;unfold Zfk at hk;simp only [YY,beq_iff_eq] at hk;omega
end Go.Proofs.YthhcfdpoiganhaaGreat
end
section
set_option maxRecDepth 100000
namespace Go.Proofs.YthhcfdpoiganhaaGreat
open Go.Sh
theorem Zbxf {b:List UInt8} {fl kd:Nat} {d:List UInt8} {n:Nat} (h:Zet b=some (fl,kd,d,n)):fl=0∨fl=64∨fl=128∨fl=192:=by
 have key: ∀x:UInt8,x.toNat/64*64=0∨x.toNat/64*64=64∨x.toNat/64*64=128∨x.toNat/64*64=192:=fun x=>by have:=YD x;omega
 unfold Zet at h;split at h;rename_i f k n1 r;split at h;split at h;split at h;simp only [Option.some.injEq,Prod.mk.injEq] at h;rw [← h.1];exact key f;cases h;cases h;split at h;simp only [Option.some.injEq,Prod.mk.injEq] at h;rw [← h.1];exact key f;cases h;cases h
theorem Zcrk {H:Heap} {Z:Nat->Prop} {b:List UInt8} {v:Value} (hz: ∀x,Z x->H x≠none) (hy:Lyd H) (hd:Zb Z H Zby b v) (hl:b.length <= 1000000000):
  FnW Tryz.prog Zbbd ⟨[v]⟩ H fun r H'=>Keep Nil H H'∧∃(Zn:Nat->Prop) (fl kd n:Int) (da:Option Addr) (dn dc:Nat) (ok:Bool) (d:List UInt8),Zcd H H' Zn∧r= .tuple ⟨[.agg ⟨pcV fl kd da dn dc n⟩,.bool ok]⟩∧Zb (Or2 Z Zn) H' Zby d (.slice da dn dc)∧
   ((ok=false∧Zet b=none)∨(ok=true∧∃fl' kd' n':Nat,Zet b=some (fl',kd',d,n')∧fl=(fl':Int)∧kd=(kd':Int)∧n=(n':Int))):=by
 refine (FnQ.runZ (x:=(b,())) Zcsx rfl rfl (Z:=Z) ?_ hz hy.live hy.ok (K:=fun r=>match Zet b with
   | some (fl,kd,d,n)=>r.1=((UInt8.ofNat fl,(kd:Int),d,(n:Int)):UInt8×Int×List UInt8×Int)∧(r.2.1:Bool)=true
   | none=>r.1=((0,0,[],0):UInt8×Int×List UInt8×Int)∧(r.2.1:Bool)=false) (Zcpy b _ hl ?_)).mono fun r H' hk=>?_
 simp only [pksA,pkA,SimL,SimV,and_true];exact hd
 ·unfold nxK;cases h:Zet b with
  | none=>exact ⟨rfl,rfl⟩
  | some q=>obtain ⟨fl,kd,d,n⟩:=q;exact ⟨rfl,rfl⟩
 ·obtain ⟨k,y1,Zn,h1,_,hf,h3⟩:=hk;obtain ⟨pc,ok,u⟩:=y1;change UInt8×Int×List UInt8×Int at pc;obtain ⟨fl,kd,d,n⟩:=pc;have h3':SimV (gZ fun b=>Z b∨Zn b) H' 0 (.tup [.agg [.int .u8 (fl.toNat:Int),.int .i64 kd,.lst [.int .u8] d,.int .i64 n],.bool ok]) r:=h3;simp only [SimV] at h3';obtain ⟨vs,rfl,hvs⟩:=h3'
  match vs,hvs with
  | [x1,x2],hvs=>
   simp only [SimL,SimV,and_true] at hvs;obtain ⟨⟨ws,rfl,hws⟩,rfl⟩:=hvs
   match ws,hws with
   | [w1,w2,w3,w4],hws=>
    simp only [SimL,SimV,and_true] at hws;obtain ⟨⟨rfl,_⟩,⟨rfl,_⟩,h5,rfl,_⟩:=hws;obtain ⟨da,dn,dc,rfl⟩: ∃da dn dc,w3= .slice da dn dc:=by have h5':=h5;simp only [Zb] at h5';obtain ⟨pa,pn,pc,e,_⟩:=h5';exact ⟨pa,pn,pc,e⟩
    refine ⟨k,Zn,(fl.toNat:Int),kd,n,da,dn,dc,ok,d,hf,rfl,h5,?_⟩;cases h:Zet b with
    | none=>
     rw [h] at h1;exact .inl ⟨h1.2,rfl⟩
    | some q=>
     obtain ⟨fl',kd',d',n'⟩:=q;rw [h] at h1;obtain ⟨h1,h2⟩:=h1;have h1:(fl,kd,d,n)=((UInt8.ofNat fl',(kd':Int),d',(n':Int)):UInt8×Int×List UInt8×Int):=h1;simp only [Prod.mk.injEq] at h1;obtain ⟨rfl,rfl,rfl,rfl⟩:=h1;refine .inr ⟨h2,fl',kd',n',rfl,?_,rfl,rfl⟩;have:=Zbxf h;simp only [YP];omega
open Classical in
noncomputable def sans (H:Heap) (S:Nat->Prop):Heap:=⟨fun b=>if S b then none else H b,by
 obtain ⟨N,h⟩:=H.fin;refine ⟨N,fun k hk=>?_⟩;split;rfl
 ·exact h k hk⟩
theorem Zbgl {H:Heap} {S:Nat->Prop} {x:Nat} (h:S x):(sans H S) x=none:=if_pos h
theorem Zvj {H:Heap} {S:Nat->Prop} {x:Nat} (h: ¬S x):(sans H S) x=H x:=if_neg h
theorem Zbxb {Z:Nat->Prop} {H:Heap} {d:List UInt8} {v:Value} (h:Zb Z H Zby d v): ∃a n c,v= .slice a n c:=by simp only [Zb] at h;obtain ⟨pa,pn,pc,e,_⟩:=h;exact ⟨pa,pn,pc,e⟩
theorem Zczz {Z0:Nat->Prop} {H0 H:Heap} {b:Nat} {four:Bool} {Zn:Nat->Prop} {vp:Value} {ca:Option Addr} {cc:Nat} {oa:Option Addr} {oc:Nat} {seen:List Bool} {v4 vm:Value} {h4:Bool} {s:RdS} {d:List UInt8} {a:Option Addr} {n c:Nat} (hz0: ∀x,Z0 x->H0 x≠none) (hy:Lyd H0) (h:RdX Z0 H0 H b four Zn vp ca cc oa oc seen v4 vm h4 s) (hd:Zb (Or2 Z0 Zn) H Zby d (.slice a n c)) (hdl:d.length <= 100000) (hi:InvS s) {fl:Nat} (hfl:fl=0∨fl=64∨fl=128∨fl=192) (sz:Int) {kd:Nat} (hkd:kd<256):
  FnW Tryz.prog Ztn ⟨[.pointer (some ⟨b,0,none⟩),.agg ⟨pcV (fl:Int) kd a n c sz⟩]⟩ H (Zki Z0 H0 H b four (Zce four fl kd d s)):=by
 let S:Nat->Prop:=fun x=>x=b∨ca=some ⟨x,0,none⟩∨oa=some ⟨x,0,none⟩
 obtain ⟨xs,ownO,hcO⟩:=h.at_.others;have hS0: ∀x,S x->H0 x=none:=fun x hx=>by rcases hx with rfl | hx | hx;exact h.at_.bn;exact h.at_.comms.free hx;exact ownO.free hx
 have hSz: ∀x,Or2 Z0 Zn x->¬S x:=fun x hx hs=>by rcases hx with hx | hx;exact hz0 x hx (hS0 x hs);rcases hs with rfl | hs | hs;exact h.at_.bz hx;exact h.at_.cz x hs hx;exact h.at_.oz x hs hx
 have same0: ∀x,Or2 Z0 Zn x->(sans H S) x=H x:=fun x hx=>Zvj (hSz x hx);have k00:Keep Nil H0 (sans H S):=⟨fun x _ hx=>by
   rw [Zvj (fun hs=>hx (hS0 x hs))];exact h.at_.keep.same x (fun h=>h.elim) hx,fun x hx=>by
   rw [Zvj (fun hs=>hx (hS0 x hs))];exact h.at_.keep.live x hx⟩
 have k01:Keep Nil (sans H S) H:=⟨fun x _ hx=>by
   by_cases hs:S x;exact absurd (Zbgl hs) hx
   ·rw [Zvj hs],fun x hx=>by
   by_cases hs:S x;exact absurd (Zbgl hs) hx
   ·rw [Zvj hs] at hx;exact hx⟩
 have hz0': ∀x,Or2 Z0 Zn x->(sans H S) x≠none:=fun x hx=>by rw [same0 x hx];exact h.at_.zlive hz0 x hx
 have zz: ∀x,Or2 Z0 Zn x->Or2 (Or2 Z0 Zn) (fun _=>False) x∧H x=H x:=fun x hx=>⟨.inl hx,rfl⟩;have reown: ∀{a:Option Addr} {n c sz:Nat} {T:TypeId} {xs:List Value},(∀m,a=some ⟨m,0,none⟩->S m)->Sh.Own H0 H a n c sz T xs->Sh.Own (sans H S) H a n c sz T xs:=fun {a n c sz T xs} hs ho=>by refine ⟨ho.1,ho.2.1,?_⟩;rcases ho.2.2 with h1 | ⟨m,rest,h1,h2,h3,h4⟩;exact .inl h1;exact .inr ⟨m,rest,h1,Zbgl (hs m h1),h3,h4⟩
 have hx:RdX (Or2 Z0 Zn) (sans H S) H b four (fun _=>False) vp ca cc oa oc seen v4 vm h4 s:=
  ⟨⟨k01,Zcd.none,Zbgl (.inl rfl),fun h=>h,Zb.ext zz _ _ _ h.at_.path,reown (fun m hm=> .inr (.inl hm)) h.at_.comms,fun _ _ h=>h,h.at_.clt,⟨xs,reown (fun m hm=> .inr (.inr hm)) ownO,fun i r hr=>Ze.ext zz _ _ _ (hcO i r hr)⟩,fun _ _ h=>h,h.at_.olt⟩,h.blk,h.seen,h.p4.ext zz,h.m4.ext zz⟩
 have hd':Zb (Or2 Z0 Zn) (sans H S) Zby d (.slice a n c):=Zb.ext (fun x hx=>⟨hx,same0 x hx⟩) _ _ _ hd;have fresh0:Zcd H0 (sans H S) Zn:=fun x hx=>by obtain ⟨q1,q2,q3⟩:=h.at_.new x hx;rw [same0 x (.inr hx)];exact ⟨q1,q2,q3⟩
 have back: ∀{s':RdS} {H':Heap},Rd (Or2 Z0 Zn) (sans H S) H' b four s'->Rd Z0 H0 H' b four s':=by
  rintro s' H' ⟨Zn',vp',ca',cc',oa',oc',seen',v4',vm',h4',x'⟩;have zb: ∀x,Or2 (Or2 Z0 Zn) Zn' x->Or2 Z0 (Or2 Zn Zn') x∧H' x=H' x:=fun x hx=>⟨by
   rcases hx with (hx | hx) | hx;exact .inl hx;exact .inr (.inl hx)
   ·exact .inr (.inr hx),rfl⟩
  have notZn: ∀m,(sans H S) m=none->¬Zn m:=fun m hm hz=>hz0' m (.inr hz) hm;obtain ⟨xs',own',hc'⟩:=x'.at_.others;refine ⟨Or2 Zn Zn',vp',ca',cc',oa',oc',seen',v4',vm',h4',⟨⟨k00.trans x'.at_.keep,Zcd.both (fresh0.later x'.at_.keep fun _ _ h=>h) (x'.at_.new.early k00),h.at_.bn,fun hz=>hz.elim (notZn b x'.at_.bn) x'.at_.bz,Zb.ext zb _ _ _ x'.at_.path,x'.at_.comms.mono k00,fun m hm hz=>hz.elim (notZn m (x'.at_.comms.free hm)) (x'.at_.cz m hm),x'.at_.clt,⟨xs',own'.mono k00,fun i r hr=>Ze.ext zb _ _ _ (hc' i r hr)⟩,fun m hm hz=>hz.elim (notZn m (own'.free hm)) (x'.at_.oz m hm),x'.at_.olt⟩,x'.blk,x'.seen,x'.p4.ext zb,x'.m4.ext zb⟩⟩
 refine (Zdnh hz0' (hy.keep k00) hd' hdl ⟨_,_,_,_,_,_,_,_,_,_,hx⟩ hi hfl sz hkd).mono fun v H' hv=>?_;obtain ⟨c1,hv⟩:=hv;refine ⟨c1,?_⟩;cases ht:Zce four fl kd d s with
 | none=>
  rw [ht] at hv;exact ⟨hv.1,hv.2.choose,back hv.2.choose_spec⟩
 | some s'=>
  rw [ht] at hv;exact ⟨hv.1,back hv.2⟩
end Go.Proofs.YthhcfdpoiganhaaGreat
end
section
set_option maxRecDepth 100000
namespace Go.Proofs.YthhcfdpoiganhaaGreat
open Go.Sh
abbrev ksAt:List Kd:=[Kd.int .i64,Kd.lst [Kd.bool,Kd.lst [Kd.int .u32]],Kd.int .u32,Kd.bool,Kd.int .u32,Kd.bool,Kd.int .u32,Kd.bool,Kd.bool,Kd.int .u32,Kd.int .u32,Kd.lst [Kd.int .u32],Kd.lst [Kd.int .i64,Kd.lst [Kd.int .u8]]]
abbrev ksFt:List Kd:=[Kd.int .i64,Kd.int .i64,Kd.lst [Kd.int .u8]]
abbrev Zbjx:List Pk:=[Pk.lst [Kd.int .u8],Pk.bool,Pk.bool]
abbrev Zbjj:List Pk:=[Pk.agg ksAt,Pk.int .i64,Pk.agg ksFt]
def Zor:Option (List UInt8)->Int×Int×List UInt8
 | none=>(0,0,[])
 | some w=>(3,2,w)
def zrA:List Value:=[.int .i64 0,.slice none 0 0,.int .u32 0,.bool false,.int .u32 0,.bool false,.int .u32 0,.bool false,.bool false,.int .u32 0,.int .u32 0,.slice none 0 0,.slice none 0 0]
def zrF:List Value:=[.int .i64 0,.int .i64 0,.slice none 0 0]
theorem Zdgl (four:Bool):setL Zbmz 13 [.bool four]=Zbg rd0 four (.slice none 0 0) none 0 none 0 (List.replicate 256 false) (.slice none 0 0) (.slice none 0 0) false:=by cases four<;>kernel_rfl
theorem Zcjp {H0 H:Heap} {a:Option Addr} {n cap:Nat} {T:TypeId} {xs:List Value} {ks:List Kd} {l:List (Tp ks)} {Z:Nat->Prop} (ho:Sh.Own H0 H a n cap ks.length T xs) (hl:l.length=n) (hc: ∀i r,l[i]? =some r->Ze Z H ks r (fun j=>xs[i*ks.length+j]?)) (hcap:cap <= Zw) (hz: ∀m,a=some ⟨m,0,none⟩->Z m):Zb Z H (.lst ks) l (.slice a n cap):=by
 simp only [Zb];refine ⟨a,n,cap,rfl,hl,ho.le,hcap,fun h0=>?_⟩;obtain ⟨m,rfl⟩:=ho.addr h0;obtain ⟨rest,hb,_⟩:=ho.blk rfl;refine ⟨m,0,rfl,hz m rfl,_,_,_,hb,fun i x hx=>?_⟩;have hxl:=ho.len;have hi:i<n:=by rcases Ys i l.length with h | h;omega;have hx':l[i]? =some x:=hx;rw [Yf h] at hx';cases hx'
 refine Ze.congr (fun j hj=>?_) (hc i x hx);simp only [Yx,YE];rw [Yd];have:(i+1)*ks.length <= n*ks.length:=Yy _ hi;rw [Ypa] at this;omega
abbrev Zik (Z:Nat->Prop) (H:Heap) (r:Za×Nat×Option (List UInt8)) (v:Value) (H':Heap):Prop:=
 Keep Nil H H'∧∃Zn:Nat->Prop,Zcd H H' Zn∧SimV (gZ fun b=>Z b∨Zn b) H' 0 (.tup [.agg (lvT ksAt r.1),.int .i64 (r.2.1:Int),.agg (lvT ksFt (Zor r.2.2))]) v
theorem Zik.shut {Z:Nat->Prop} {H:Heap} {r:Za×Nat×Option (List UInt8)} {v:Value} {H1 H2:Heap} (hz: ∀x,Z x->H x≠none) (h:Zik Z H r v H1) (hs:Shut H H1 H2):Zik Z H r v H2:=by
 obtain ⟨k,Zn,hf,hv⟩:=h;refine ⟨Zln k hs,Zn,hf.shut hs,SimV.ext (g:=gZ fun b=>Z b∨Zn b) (g':=gZ fun b=>Z b∨Zn b) (N:=0) (Yh _) ⟨fun b hb=>⟨hb,?_⟩,fun _ h=>absurd h (by omega),fun _ h=>absurd h (by omega)⟩ _ _ hv⟩
 rcases hs b with e | ⟨e,e2,_⟩;exact e;rcases hb with hb | hb;exact absurd e (hz b hb);exact absurd e2 ((hf b hb).2.2 _)
theorem Zbod {g:Gh} {H:Heap} {al fs:List AV} {w:Int} {vA vF:List Value} (h1:SimL g H 0 al vA) (hw:InR .i64 w) (h2:SimL g H 0 fs vF):SimV g H 0 (.tup [.agg al,.int .i64 w,.agg fs]) (.tuple ⟨[.agg ⟨vA⟩,.int .i64 w,.agg ⟨vF⟩]⟩):=by simp only [SimV];refine ⟨_,rfl,?_⟩;simp only [SimL,SimV,and_true];exact ⟨⟨_,rfl,h1⟩,⟨trivial,hw⟩,_,rfl,h2⟩
theorem Zsf {n:Int} (h1: -1000000 <= n) (h2:n <= 1000000):InR .i64 n:=⟨by simp only [loI];omega,by simp only [hiI];omega⟩
theorem Zui (n:UInt32):InR .u32 (n.toNat:Int):=⟨by simp [loI],by have:=Yda n;simp only [hiI];omega⟩
theorem Zbxw {g:Gh} {H:Heap}:SimL g H 0 (lvT ksAt Zfe) zrA:=by
 show SimL g H 0 [.int .i64 0,.lst [Kd.bool,Kd.lst [Kd.int .u32]] [],.int .u32 0,.bool false,.int .u32 0,.bool false,.int .u32 0,.bool false,.bool false,.int .u32 0,.int .u32 0,.lst [Kd.int .u32] [],.lst [Kd.int .i64,Kd.lst [Kd.int .u8]] []] zrA;have r1:InR .i64 0:=by simp [InR,loI,hiI]
 have r2:InR .u32 0:=by simp [InR,loI,hiI]
 simp only [zrA,SimL,SimV];exact ⟨⟨trivial,r1⟩,Zrn,⟨trivial,r2⟩,trivial,⟨trivial,r2⟩,trivial,⟨trivial,r2⟩,trivial,trivial,⟨trivial,r2⟩,⟨trivial,r2⟩,Zrn,Zrn,trivial⟩
theorem Zbsc {g:Gh} {H:Heap}:SimL g H 0 (lvT ksFt (Zor none)) zrF:=by
 show SimL g H 0 [.int .i64 0,.int .i64 0,.lst [Kd.int .u8] []] zrF;have r1:InR .i64 0:=by simp [InR,loI,hiI]
 simp only [zrF,SimL,SimV];exact ⟨⟨trivial,r1⟩,⟨trivial,r1⟩,Zrn,trivial⟩
theorem Zcpg {Z:Nat->Prop} {H:Heap} {a:Za} {vp:Value} {ca:Option Addr} {cc:Nat} {oa:Option Addr} {oc:Nat} (ho:InR .i64 a.origin) (hp:Zb Z H Zfn a.path vp) (hc:Zb Z H (.lst [.int .u32]) a.comms (.slice ca a.comms.length cc)) (hO:Zb Z H (.lst Zoh) a.others (.slice oa a.others.length oc)):
  SimL (gZ Z) H 0 (lvT ksAt a) (attV a vp ca cc oa oc):=by
 obtain ⟨origin,path,nxt,hasMed,med,hasLocal,loc,atomic,hasMaker,makerAS,maker,comms,others⟩:=a;show SimL (gZ Z) H 0 [.int .i64 origin,.lst [Kd.bool,Kd.lst [Kd.int .u32]] path,.int .u32 (nxt.toNat:Int),.bool hasMed,.int .u32 (med.toNat:Int),.bool hasLocal,.int .u32 (loc.toNat:Int),.bool atomic,.bool hasMaker,.int .u32 (makerAS.toNat:Int),.int .u32 (maker.toNat:Int),.lst [Kd.int .u32] comms,.lst [Kd.int .i64,Kd.lst [Kd.int .u8]] others] _;simp only [attV,SimL,SimV];exact ⟨⟨trivial,ho⟩,hp,⟨trivial,Zui _⟩,trivial,⟨trivial,Zui _⟩,trivial,⟨trivial,Zui _⟩,trivial,trivial,⟨trivial,Zui _⟩,⟨trivial,Zui _⟩,hc,hO,trivial⟩
theorem Zlh {H H':Heap} {m:Nat} {T:TypeId} {c:List Value} (hb:Blk H' m T ⟨c⟩) (ho: ∀x,x≠m->H' x=H x):Keep (fun x=>x=m) H H':=⟨fun x hx _=>ho x hx,fun x hx=>by
 by_cases e:x=m;subst e;exact hb.some
 ·rw [ho x e];exact hx⟩
theorem Zcgm {H:Heap} {m:Nat} {T T':TypeId} {c c':Array Value} (h:Blk H m T c) (h':Blk H m T' c'):T=T':=by unfold Blk at h h';rw [h] at h';simp only [Option.some.injEq,Obj.cells.injEq] at h';exact h'.2.1
section
variable {Z:Nat->Prop} {H Hb Hx:Heap} {b m1 m2:Nat} {four told:Bool} {s:RdS} {d:List UInt8}
theorem Zckj (hz: ∀x,Z x->H x≠none) (kb:Keep Nil H Hb) (hy:Lyd Hb) (hr:Rd Z Hb Hx b four s) (hi:InvS s) (hb1:Blk Hb m1 Zhr ⟨zrA⟩) (hb2:Blk Hb m2 Zjq ⟨zrF⟩) (f1:H m1=none) (f2:H m2=none) (hl:Zfu four d.length d rd0=(s,none)) {next:((Option Addr×Nat×Nat)×Unit)->Heap->Prop}:
  Zbba told m1 m2 b next Hx fun v H1=>∀H2,Shut H H1 H2->Zik Z H (Zci four told d) v H2:=by
 have hzb: ∀x,Z x->Hb x≠none:=fun x hx=>kb.live x (hz x hx);have n12:m1≠m2:=fun e=>absurd (Zcgm (e▸hb1:Blk Hb m2 Zhr ⟨zrA⟩) hb2) (by decide)
 have spec:Zci four told d=(if 2 <= (if told=true∧¬(1∈s.seen∧2∈s.seen∧3∈s.seen) then s.found 2 else s).worst then (Zfe,(if told=true∧¬(1∈s.seen∧2∈s.seen∧3∈s.seen) then s.found 2 else s).worst,none) else (Zdt (if told=true∧¬(1∈s.seen∧2∈s.seen∧3∈s.seen) then s.found 2 else s),(if told=true∧¬(1∈s.seen∧2∈s.seen∧3∈s.seen) then s.found 2 else s).worst,none)):=by unfold Zci;rw [hl]
 have j2: ∀(s':RdS) (H2:Heap),s'=(if told=true∧¬(1∈s.seen∧2∈s.seen∧3∈s.seen) then s.found 2 else s)->InvS s'->Rd Z Hb H2 b four s'->Zbbv m1 m2 b next H2 fun v H1=>∀H2,Shut H H1 H2->Zik Z H (Zci four told d) v H2:=by
  intro s' H2 hs' hi' hr';rw [← hs'] at spec;obtain ⟨Zn,vp,ca,cc,oa,oc,seen,v4,vm,h4,x⟩:=hr';have d1:=x.at_.keep.blk hb1 fun h=>h.elim;have d2:=x.at_.keep.blk hb2 fun h=>h.elim;have n1b:m1≠b:=fun e=>hb1.some (e▸x.at_.bn);have n2b:m2≠b:=fun e=>hb2.some (e▸x.at_.bn);unfold Zbbv;refine ⟨_,x.get 14 rfl,?_⟩;unfold Zbts;have hw:=hi'.w;have hwr:InR .i64 (s'.worst:Int):=Zsf (by omega) (by omega)
  refine IfB.intro (fun h2=>?_) fun h2=>?_
  ·have h2:2 <= s'.worst:=by have:=of_decide_eq_true h2;omega
   rw [if_pos h2] at spec;refine ⟨[b],fun y hym=>by rw [YB] at hym;subst hym;exact ⟨_,x.blk⟩,by simp,_,x.get 14 rfl,?_⟩
   refine Zkd (b:=m1) zrA 0 [] zrA H2 d1 rfl rfl (by decide) fun H5 e1 o1=>?_
   refine ⟨fun y hym=>?_,?_⟩;rw [YB] at hym;subst hym;exact ⟨⟨_,x.blk⟩,o1 _ (Ne.symm n1b)⟩;have e2:Blk H5 m2 Zjq ⟨zrF⟩:=d2.same (o1 m2 (Ne.symm n12));refine Zkd (b:=m2) zrF 0 [] zrF H5 e2 rfl rfl (by decide) fun H6 g2 o2=>?_
   have e1:Blk H5 m1 Zhr ⟨zrA⟩:=e1;have g2:Blk H6 m2 Zjq ⟨zrF⟩:=g2;have g1:Blk H6 m1 Zhr ⟨zrA⟩:=e1.same (o2 m1 n12);have k6:Keep Nil H H6:=Zii (Zii (kb.trans x.at_.keep) (Zlh e1 o1) fun y hy=>by subst hy;exact f1) (Zlh g2 o2) fun y hy=>by subst hy;exact f2
   have y: ∀j:Nat,H6.cell ⟨m1,j,none⟩=zrA[j]? :=fun j=>by rw [g1.cell];simp
   have z: ∀j:Nat,H6.cell ⟨m2,j,none⟩=zrF[j]? :=fun j=>by rw [g2.cell];simp
   refine ⟨0,y 0,none,0,0,y 1,0,y 2,false,y 3,0,y 4,false,y 5,0,y 6,false,y 7,false,y 8,0,y 9,0,y 10,none,0,0,y 11,none,0,0,y 12,0,z 0,0,z 1,none,0,0,z 2,fun H7 hs=>?_⟩;refine Zik.shut hz ⟨k6,fun _=>False,Zcd.none,?_⟩ hs;rw [spec];exact Zbod Zbxw hwr Zbsc
  ·have h2: ¬2 <= s'.worst:=by have:=of_decide_eq_false h2;omega
   rw [if_neg h2] at spec;refine (Zdnd hzb hy ⟨_,_,_,_,_,_,_,_,_,_,x⟩ hi'.pk hi'.qk).mono fun v H3 hm=>?_;obtain ⟨rfl,r3,c3⟩:=hm;have og:InR .i64 (Zdt s').origin:=by
    have:=hi'.og;have e:(Zdt s').origin=s'.a.origin:=by unfold Zdt;obtain ⟨⟨origin,path,nxt,hasMed,med,hasLocal,loc,atomic,hasMaker,makerAS,maker,comms,others⟩,worst,sn,p4,m4⟩:=s';simp only [Za.origin];split<;>rfl
    rw [e];exact Zsf (by omega) (by omega)
   obtain ⟨Zn,vp,ca,cc,oa,oc,seen,v4,vm,h4,x3⟩:=r3;have d1:=x3.at_.keep.blk hb1 fun h=>h.elim;have d2:=x3.at_.keep.blk hb2 fun h=>h.elim;obtain ⟨pa,pn,pc,rfl⟩: ∃pa pn pc,vp= .slice pa pn pc:=by have hp:=x3.at_.path;simp only [Zb] at hp;obtain ⟨pa,pn,pc,e,_⟩:=hp;exact ⟨pa,pn,pc,e⟩
   refine ⟨rfl,[b],fun y hym=>by rw [YB] at hym;subst hym;exact ⟨_,x3.blk⟩,?_⟩
   refine ⟨_,x3.get 0 rfl,pa,pn,pc,x3.get 1 rfl,_,x3.get 2 rfl,_,x3.get 3 rfl,_,x3.get 4 rfl,_,x3.get 5 rfl,_,x3.get 6 rfl,_,x3.get 7 rfl,_,x3.get 8 rfl,_,x3.get 9 rfl,_,x3.get 10 rfl,_,_,_,x3.get 11 rfl,_,_,_,x3.get 12 rfl,by simp,_,x3.get 14 rfl,?_⟩
   refine Zkd (b:=m1) (attV (Zdt s') (.slice pa pn pc) ca cc oa oc) 0 [] zrA H3 d1 rfl rfl (by simp [attV,Zv]) fun H5 e1 o1=>?_
   refine ⟨fun y hym=>?_,?_⟩;rw [YB] at hym;subst hym;exact ⟨⟨_,x3.blk⟩,o1 _ (Ne.symm n1b)⟩;have e2:Blk H5 m2 Zjq ⟨zrF⟩:=d2.same (o1 m2 (Ne.symm n12));refine Zkd (b:=m2) zrF 0 [] zrF H5 e2 rfl rfl (by decide) fun H6 g2 o2=>?_
   have e1:Blk H5 m1 Zhr ⟨attV (Zdt s') (.slice pa pn pc) ca cc oa oc⟩:=e1;have g2:Blk H6 m2 Zjq ⟨zrF⟩:=g2;have g1:Blk H6 m1 Zhr ⟨attV (Zdt s') (.slice pa pn pc) ca cc oa oc⟩:=e1.same (o2 m1 n12);have k6:Keep Nil H H6:=Zii (Zii (kb.trans x3.at_.keep) (Zlh e1 o1) fun y hy=>by subst hy;exact f1) (Zlh g2 o2) fun y hy=>by subst hy;exact f2
   have y: ∀j:Nat,H6.cell ⟨m1,j,none⟩=(attV (Zdt s') (.slice pa pn pc) ca cc oa oc)[j]? :=fun j=>by rw [g1.cell];simp
   have z: ∀j:Nat,H6.cell ⟨m2,j,none⟩=zrF[j]? :=fun j=>by rw [g2.cell];simp
   refine ⟨_,y 0,_,_,_,y 1,_,y 2,_,y 3,_,y 4,_,y 5,_,y 6,_,y 7,_,y 8,_,y 9,_,y 10,_,_,_,y 11,_,_,_,y 12,0,z 0,0,z 1,none,0,0,z 2,fun H7 hs=>?_⟩;obtain ⟨xs,ownO,hcO⟩:=x3.at_.others;have ownC:=x3.at_.comms;have same: ∀y,y≠m1->y≠m2->H6 y=H3 y:=fun y h1 h2=>by rw [o2 y h2,o1 y h1]
   have k36:Keep (fun y=>y=m1∨y=m2) H3 H6:=⟨fun y hy _=>same y (fun e=>hy (.inl e)) fun e=>hy (.inr e),fun y hy=>by
    by_cases h1:y=m1;subst h1;exact g1.some
    ·by_cases h2:y=m2;subst h2;exact g2.some
     ·rw [same y h1 h2];exact hy⟩
   have ne12: ∀y,Hb y=none->y≠m1∧y≠m2:=fun y hy=>⟨fun e=>hb1.some (e▸hy),fun e=>hb2.some (e▸hy)⟩;have zne: ∀y,Or2 Z Zn y->y≠m1∧y≠m2:=fun y hy=>hy.elim (fun h=>⟨fun e=>hz y h (e▸f1),fun e=>hz y h (e▸f2)⟩) fun h=>ne12 y (x3.at_.new y h).1
   let Zf:Nat->Prop:=fun y=>Zn y∨ca=some ⟨y,0,none⟩∨oa=some ⟨y,0,none⟩
   have zext: ∀y,Or2 Z Zn y->(Z y∨Zf y)∧H6 y=H3 y:=fun y hy=>⟨hy.elim .inl fun h=> .inr (.inl h),same y (zne y hy).1 (zne y hy).2⟩;have ownC6:=Zlk ownC k36 fun y hy e=>by have:=ne12 y (ownC.free e);rcases hy with h | h;exact this.1 h;exact this.2 h
   have ownO6:=Zlk ownO k36 fun y hy e=>by have:=ne12 y (ownO.free e);rcases hy with h | h;exact this.1 h;exact this.2 h
   have hfr:Zcd H H6 Zf:=fun y hy=>by
    rcases hy with hy | hy | hy;obtain ⟨q1,q2,q3⟩:=x3.at_.new y hy;have:=ne12 y q1;rw [same y this.1 this.2];exact ⟨kb.free q1,q2,q3⟩;obtain ⟨cx,hcx⟩:=ownC6.live hy;exact ⟨kb.free (ownC.free hy),hcx.some,fun ds e=>by unfold Blk at hcx;rw [hcx] at e;cases e⟩
    obtain ⟨cx,hcx⟩:=ownO6.live hy;exact ⟨kb.free (ownO.free hy),hcx.some,fun ds e=>by unfold Blk at hcx;rw [hcx] at e;cases e⟩
   refine Zik.shut hz ⟨k6,Zf,hfr,?_⟩ hs;rw [spec];refine Zbod (Zcpg (Z:=fun b=>Z b∨Zf b) (a:=Zdt s') (vp:= .slice pa pn pc) og (Zb.ext zext _ _ _ x3.at_.path) ?_ ?_) hwr Zbsc;refine Zcjp (ks:=[.int .u32]) ownC6 rfl (fun i r hr=>?_) x3.at_.clt fun m hm=> .inr (.inr (.inl hm));have hr':(Zdt s').comms[i]? =some r:=hr;simp only [Ze,Zb,and_true];refine ⟨.int .u32 ((r:UInt32).toNat:Int),?_,rfl,trivial⟩;show ((Zdt s').comms.map fun x=>Value.int .u32 (x.toNat:Int))[i*1+0]? =_;rw [Yta,Nat.add_zero,Yaa,hr'];rfl;exact Zcjp (ks:=Zoh) ownO6 rfl (fun i r hr=>Ze.ext zext _ _ _ (hcO i r hr)) x3.at_.olt fun m hm=> .inr (.inr (.inr hm))
 have hr0:=hr;obtain ⟨Zn,vp,ca,cc,oa,oc,seen,v4,vm,h4,x⟩:=hr0;have sn: ∀k,k<256->Hx.cell ⟨b,15+k,none⟩=some (.bool (decide (k∈s.seen))):=fun k hk=>by rw [← x.seen.2 k hk];exact x.get (15+k) (Zbzd x.seen.1 hk)
 have j1: ∀x64:Bool,x64=decide (told=true∧¬(1∈s.seen∧2∈s.seen∧3∈s.seen))->Zov m1 m2 b next x64 Hx fun v H1=>∀H2,Shut H H1 H2->Zik Z H (Zci four told d) v H2:=by
  rintro x64 rfl;unfold Zov;refine IfB.intro (fun hh=>?_) fun hh=>?_;have hh:=of_decide_eq_true hh;refine (Zli hzb hr 2).mono fun v H14 hm=>?_;obtain ⟨rfl,r14,_⟩:=hm;exact ⟨rfl,j2 (s.found 2) H14 (by rw [if_pos hh]) (hi.found 2 (by decide)) r14⟩
  have hh:=of_decide_eq_false hh;exact j2 s Hx (by rw [if_neg hh]) hi hr
 unfold Zbba;refine IfB.intro (fun ht=>?_) fun ht=>?_
 ·subst ht;refine ⟨by decide,by decide,_,sn 1 (by decide),IfB.intro (fun h1=>?_) fun h1=>?_⟩
  ·refine ⟨by decide,by decide,_,sn 2 (by decide),IfB.intro (fun h2=>?_) fun h2=>?_⟩
   ·refine ⟨by decide,by decide,_,sn 3 (by decide),j1 _ ?_⟩
    have h1:=of_decide_eq_true h1;have h2:=of_decide_eq_true h2;simp [h1,h2]
   have h2:=of_decide_eq_false h2;exact j1 _ (by simp [h2])
  have h1:=of_decide_eq_false h1;exact j1 _ (by simp [h1])
 subst ht;exact j1 _ (by simp)
end
end Go.Proofs.YthhcfdpoiganhaaGreat
end
section
set_option maxRecDepth 100000
namespace Go.Proofs.YthhcfdpoiganhaaGreat
open Go.Sh
theorem Zcpx {Z:Nat->Prop} {H:Heap} {d:List UInt8} {a:Option Addr} {n c:Nat} (h:Zb Z H Zby d (.slice a n c)) {l:Nat} (hl:l <= d.length):Zb Z H Zby (d.take l) (.slice a l c):=
 (Zbac (g:=gZ Z) (sz:=1) (ks:=[.int .u8]) (xs:=d) rfl h hl).1
theorem Zcwe {H0 H:Heap} {b:Nat} {four:Bool} {Z:Nat->Prop} (k:Keep Nil H0 H) (hb:H0 b=none) (h:Blk H b Zea ⟨setL Zbmz 13 [.bool four]⟩):Rd Z H0 H b four rd0:=by
 rw [Zdgl] at h;refine ⟨fun _=>False,.slice none 0 0,none,0,none,0,List.replicate 256 false,.slice none 0 0,.slice none 0 0,false,⟨⟨k,Zcd.none,hb,fun h=>h,Zrn,Sh.Own.nil,fun _ h=>by (cases h),by decide,⟨[],Sh.Own.nil,fun i r hr=>by have hr':([]:List Raw)[i]? =some r:=hr;simp at hr'⟩,fun _ h=>by (cases h),by decide⟩,h,⟨by simp,fun k hk=>?_⟩,⟨rfl,none,0,0,rfl⟩,rfl⟩⟩
 rw [Y6,Y5a,if_pos hk];show false=decide (k∈([]:List Nat));simp
theorem Zdly {Z:Nat->Prop} {H:Heap} {d:List UInt8} {a:Option Addr} {n c:Nat} {four told:Bool} (hz: ∀x,Z x->H x≠none) (hy:Lyd H) (hd:Zb Z H Zby d (.slice a n c)) (hdl:d.length <= 100000):
  FnW Tryz.prog Znr ⟨[.slice a n c,.bool four,.bool told]⟩ H (Zik Z H (Zci four told d)):=by
 refine Zcrc a n c four told ?_;refine newB fun m1 H1 h1 k1 c1 b1=>newB fun m2 H2 h2 k2 c2 b2=>newB fun b H3 h3 k3 c3 b3=>?_;have hb1:Blk H2 m1 Zhr ⟨zrA⟩:=k2.blk b1 fun h=>h.elim;have hb2:Blk H2 m2 Zjq ⟨zrF⟩:=b2;have f2:H m2=none:=k1.free h2;have kb:Keep Nil H H2:=k1.trans k2;have hyb:=hy.keep kb;have hzb: ∀x,Z x->H2 x≠none:=fun x hx=>kb.live x (hz x hx);have n12:m1≠m2:=fun e=>absurd (Zcgm (e▸hb1:Blk H2 m2 Zhr ⟨zrA⟩) hb2) (by decide)
 have hdb:Zb Z H2 Zby d (.slice a n c):=Zb.ext (fun x hx=>⟨hx,kb.same x (fun h=>h.elim) (hz x hx)⟩) _ _ _ hd;refine ⟨fun k x Hx=>∃(d':List UInt8) (a':Option Addr) (n' c':Nat) (s:RdS),x=((a',n',c'),())∧Zb Z H2 Zby d' (.slice a' n' c')∧k=d'.length∧d'.length <= d.length∧Rd Z H2 Hx b four s∧InvS s∧Zfu four d'.length d' s=Zfu four d.length d rd0,d.length,⟨d,a,n,c,rd0,rfl,hdb,rfl,Yh _,Zcwe k3 h3 b3,inv0,rfl⟩,?_⟩;rintro k x Hx ⟨d',a',n',c',s,rfl,hd',rfl,hdl',hr,hi,hloop⟩ gE;dsimp only;obtain ⟨hn',hnc',hcm'⟩:=Zko hd';unfold Zw at hcm';unfold Zbsh;refine IfB.intro (fun hpos=>?_) fun hnp=>?_
 rotate_left
 ·have:d'= []:=Yl (by have:=of_decide_eq_false hnp;omega)
  subst this;exact Zckj hz kb hyb hr hi hb1 hb2 h1 f2 hloop.symm
 have hpos:0<n':=by have:=of_decide_eq_true hpos;omega
 have keep:=hr.keep;obtain ⟨Zn,vp,ca,cc,oa,oc,seen,v4,vm,h4,q⟩:=hr;refine (Zcrk (Zia hzb keep) (hyb.keep keep) (Ziv hzb hd' keep) (by omega)).mono fun v H5 hm=>?_
 obtain ⟨k5,Z1,fl,kd,sz,da,dn,dc,ok,dd,hf5,rfl,hdd,hnx⟩:=hm;refine ⟨fl,kd,da,dn,dc,sz,ok,rfl,newB fun p H6 h6 k6 c6 b6=>?_⟩;refine Zkd (b:=p) (pcV fl kd da dn dc sz) 0 [] [.int .u8 0,.int .i64 0,.slice none 0 0,.int .i64 0] H6 b6 rfl rfl (by simp [pcV,Zv]) fun H10 e10 o10=>?_
 have e10:Blk H10 p Zkh ⟨pcV fl kd da dn dc sz⟩:=e10;have k510:Keep Nil H5 H10:=Zii k6 (Zlh e10 o10) fun y hy=>by subst hy;exact h6
 have q5:=q.more hzb k5 hf5;have q10:=q5.kept hzb k510;have r10:Rd Z H2 H10 b four s:=⟨_,_,_,_,_,_,_,_,_,_,q10⟩;have hne: ∃x0 r0,d'=x0::r0:=by
  cases d' with
  | nil=>simp at hn';omega
  | cons x0 r0=>exact ⟨x0,r0,rfl⟩
 refine IfB.intro (fun hb=>?_) (fun hb=>?_)
 ·rcases hnx with ⟨rfl,hnx⟩ | ⟨rfl,_⟩
  rotate_left
  simp at hb;refine (Zli hzb r10 2).mono fun v H11 hm=>?_;obtain ⟨rfl,r11,_⟩:=hm;refine ⟨rfl,Zckj hz kb hyb r11 (hi.found 2 (by decide)) hb1 hb2 h1 f2 ?_⟩
  rw [← hloop];obtain ⟨x0,r0,rfl⟩:=hne;simp only [List.length_cons,Zfu,hnx]
 ·rcases hnx with ⟨rfl,_⟩ | ⟨rfl,fl',kd',n2,hnx,rfl,rfl,rfl⟩;simp at hb;obtain ⟨z1,z2,z3,z4⟩:=Zbqv hnx;have hdd10:Zb (Or2 Z (Or2 Zn Z1)) H10 Zby dd (.slice da dn dc):=Zb.ext (fun x hx=>⟨hx.elim .inl fun h=> .inr (.inr h),k510.same x (fun h=>h.elim) (by
   rcases hx with hx | hx;exact k5.live x (keep.live x (hzb x hx))
   ·exact (hf5 x hx).2.1)⟩) _ _ _ hdd
  refine ⟨_,Zbu e10 0 rfl,_,Zbu e10 1 rfl,_,_,_,Zbu e10 2 rfl,_,Zbu e10 3 rfl,?_⟩;refine (Zczz hzb hyb q10 hdd10 (by omega) hi (Zbxf hnx) _ z3).mono fun v H50 hm=>?_
  obtain ⟨c50,hm⟩:=hm;have e50:Blk H50 p Zkh ⟨pcV fl' kd' da dn dc n2⟩:=c50 p _ _ e10 (by decide) (by decide) (by decide)
  have hstep:Zfu four d'.length d' s=match Zce four fl' kd' dd s with
    | none=>(s,some (d'.take n2))
    | some s'=>Zfu four (d'.length - 1) (d'.drop n2) s':=by
   obtain ⟨x0,r0,rfl⟩:=hne;simp only [List.length_cons,Zfu,hnx,Nat.add_sub_cancel];all_goals (cases Zce four fl' kd' dd s<;>rfl)
  cases ht:Zce four fl' kd' dd s with
  | none=>
   rw [ht] at hm hstep;obtain ⟨rfl,s',r50⟩:=hm;refine ⟨false,rfl,ifT rfl ⟨_,Zbu e50 3 rfl,by omega,by omega,?_⟩⟩
   rw [Int.toNat_natCast];have keep50:=r50.keep;refine (Zchs (d:=d'.take n2) (Zia hzb keep50) (hyb.keep keep50) (Ziv hzb (Zcpx hd' z2) keep50) (by rw [Yo];omega)).mono fun v H51 hm=>?_
   obtain ⟨k51,Z2,hf51,hv⟩:=hm;obtain ⟨va,vn,vc,rfl⟩:=Zbxb hv;have kk:=keep50.trans k51;have d1:=kk.blk hb1 fun h=>h.elim;have d2:=kk.blk hb2 fun h=>h.elim;refine ⟨va,vn,vc,rfl,?_⟩;refine Zkd (b:=m1) zrA 0 [] zrA H51 d1 rfl rfl (by decide) fun H5 e1 o1=>?_
   have e2:Blk H5 m2 Zjq ⟨zrF⟩:=d2.same (o1 m2 (Ne.symm n12));refine Zkd (b:=m2) [.int .i64 3,.int .i64 2,.slice va vn vc] 0 [] zrF H5 e2 rfl rfl (by simp [Zv]) fun H6 g2 o2=>?_
   have e1:Blk H5 m1 Zhr ⟨zrA⟩:=e1;have g2:Blk H6 m2 Zjq ⟨[.int .i64 3,.int .i64 2,.slice va vn vc]⟩:=g2;have g1:Blk H6 m1 Zhr ⟨zrA⟩:=e1.same (o2 m1 n12);have k6:Keep Nil H H6:=Zii (Zii (kb.trans kk) (Zlh e1 o1) fun y hy=>by subst hy;exact h1) (Zlh g2 o2) fun y hy=>by subst hy;exact f2
   have y: ∀j:Nat,H6.cell ⟨m1,j,none⟩=zrA[j]? :=fun j=>by rw [g1.cell];simp
   have z: ∀j:Nat,H6.cell ⟨m2,j,none⟩= [Value.int .i64 3,.int .i64 2,.slice va vn vc][j]? :=fun j=>by rw [g2.cell];simp
   refine ⟨0,y 0,none,0,0,y 1,0,y 2,false,y 3,0,y 4,false,y 5,0,y 6,false,y 7,false,y 8,0,y 9,0,y 10,none,0,0,y 11,none,0,0,y 12,3,z 0,2,z 1,va,vn,vc,z 2,fun H7 hs=>?_⟩;have same: ∀y,y≠m1->y≠m2->H6 y=H51 y:=fun y h1 h2=>by rw [o2 y h2,o1 y h1]
   have ne2: ∀y,Z2 y->y≠m1∧y≠m2:=fun y hy=>by have h0:=(hf51 y hy).1;exact ⟨fun e=>(keep50.blk hb1 fun h=>h.elim).some (e▸h0),fun e=>(keep50.blk hb2 fun h=>h.elim).some (e▸h0)⟩
   refine Zik.shut hz ⟨k6,Z2,fun y hy=>?_,?_⟩ hs;obtain ⟨q1,q2,q3⟩:=hf51 y hy;rw [same y (ne2 y hy).1 (ne2 y hy).2];exact ⟨(kb.trans keep50).free q1,q2,q3⟩
   ·have er:Zci four told d=(Zfe,3,some (d'.take n2)):=by unfold Zci;rw [← hloop,hstep]
    rw [er];refine Zbod Zbxw (show InR .i64 (3:Int) from Zsf (by decide) (by decide)) ?_
    show SimL _ H6 0 [.int .i64 3,.int .i64 2,.lst [Kd.int .u8] (d'.take n2)] _;simp only [SimL,SimV,and_true];refine ⟨⟨trivial,Zsf (by decide) (by decide)⟩,⟨trivial,Zsf (by decide) (by decide)⟩,Zb.ext (fun y hy=>⟨hy,?_⟩) _ _ _ hv⟩
    rcases hy with hy | hy;exact same y (fun e=>hz y hy (e▸h1)) (fun e=>hz y hy (e▸f2))
    ·exact same y (ne2 y hy).1 (ne2 y hy).2
  | some s'=>
   rw [ht] at hm hstep;obtain ⟨rfl,r50⟩:=hm;refine ⟨true,rfl,ifF rfl ⟨_,Zbu e50 3 rfl,by omega,by omega,?_⟩⟩
   refine ⟨(d'.drop n2).length,by rw [Yq];omega,d'.drop n2,_,_,_,s',rfl,?_,rfl,by rw [Yq];omega,r50,Zdgc hi ht,?_⟩
   have:=Zbma hd' (l:=n2) z2;rw [Int.toNat_natCast];exact this;rw [← hloop,hstep];exact Zbwg four _ _ _ _ (Yh _) (by rw [Yq];omega)
def Zbji (b:List UInt8) (four told:Bool) (K:Za->Int->Int×Int×List UInt8->Prop):Prop:=b.length <= 100000∧K (Zci four told b).1 ((Zci four told b).2.1:Int) (Zor (Zci four told b).2.2)
theorem Zcuy:FnQ Tryz.prog Znr Zbjx Zbjj (fun x K=>Zbji x.1 x.2.1 x.2.2.1 (fun r0 r1 r2=>K (r0,r1,r2,()))):=by
 refine Zciz rfl (fun _=>rfl) fun x K hx H Z vs hsl hz hlay hlo=>?_;obtain ⟨b,four,told,u⟩:=x;obtain ⟨hb,hk⟩:=hx;have hsl':SimL (gZ Z) H 0 [.lst [.int .u8] b,.bool four,.bool told] vs:=hsl
 match vs,hsl' with
 | [v0,v1,v2],hsl'=>
 simp only [SimL,SimV,and_true] at hsl';obtain ⟨h0,rfl,rfl⟩:=hsl';obtain ⟨a,n,c,rfl⟩:=Zbxb h0;refine (Zdly hz ⟨hlay,hlo⟩ h0 hb).mono fun v H' hv=>?_;obtain ⟨k,Zn,hf,hs⟩:=hv;exact ⟨k,((Zci four told b).1,((Zci four told b).2.1:Int),Zor (Zci four told b).2.2,()),Zn,hk,hf,hs⟩
noncomputable def Zbyd:Ct:=Zbq Zbjx Zbjj (fun x K=>Zbji x.1 x.2.1 x.2.2.1 (fun r0 r1 r2=>K (r0,r1,r2,())))
theorem Zcwx:Zk Tryz.prog Znr Zbyd:=Zbt Zcuy
end Go.Proofs.YthhcfdpoiganhaaGreat
end
