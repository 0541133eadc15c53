/-
 The document's parser over the heap:conditions.
-/
import Derived.Test.YtlkdgfolbllngaaGreatDoorGA
import Derived.Test.YtlkdgfolbllngaaGreatDoorBI
import Derived.Test.YtlkdgfolbllngaaGreatDoorEM
set_option linter.all false
section
set_option maxRecDepth 100000
namespace Go.Proofs.YtlkdgfolbllngaaGreatDoor
open Go.Sh Go.Pc
section
variable {T:TypeId} {F0 H0 F F' H H1 H':Heap} {pb d d':Nat} {l:List Tok} {σ σ' σ1 σ2:Except Nat Nat} {α β:Type}
end
end Go.Proofs.YtlkdgfolbllngaaGreatDoor
end
section
set_option maxRecDepth 100000
namespace Go.Proofs.YtlkdgfolbllngaaGreatDoor
open Go.Sh Go.Pc
section
variable {T:TypeId} {F0 H0 F F' H H1 H':Heap} {pb d d':Nat} {l:List Tok} {σ σ' σ1 σ2:Except Nat Nat} {α β:Type}
end
end Go.Proofs.YtlkdgfolbllngaaGreatDoor
end
section
set_option maxRecDepth 100000
namespace Go.Proofs.YtlkdgfolbllngaaGreatDoor
open Go.Sh Go.Pc
section
variable {T:TypeId} {F0 H0 F F' H H1 H':Heap} {pb d d':Nat} {l:List Tok} {σ σ' σ1 σ2:Except Nat Nat} {α β:Type}
end
end Go.Proofs.YtlkdgfolbllngaaGreatDoor
end
section
set_option maxRecDepth 100000
namespace Go.Proofs.YtlkdgfolbllngaaGreatDoor
open Go.Sh Go.Pc
section
variable {T:TypeId} {F0 H0 F F' H H1 H':Heap} {pb d d':Nat} {l:List Tok} {σ σ' σ1 σ2:Except Nat Nat} {α β:Type}
end
end Go.Proofs.YtlkdgfolbllngaaGreatDoor
end
section
set_option maxRecDepth 100000
namespace Go.Proofs.YtlkdgfolbllngaaGreatDoor
open Go.Sh Go.Pc
section
variable {T:TypeId} {F0 H0 F F' H H1 H':Heap} {pb d d':Nat} {l:List Tok} {σ σ' σ1 σ2:Except Nat Nat} {α β:Type}
end
end Go.Proofs.YtlkdgfolbllngaaGreatDoor
end
section
set_option maxRecDepth 100000
namespace Go.Proofs.YtlkdgfolbllngaaGreatDoor
open Go.Sh Go.Pc
section
variable {T:TypeId} {F0 H0 F F' H H1 H':Heap} {pb sb d d':Nat} {l:List Tok} {σ σ' σ1 σ2:Except Nat Nat} {α β:Type} {sp sp':Sp} {a b:Option Addr} {ac bc:Nat}
end
end Go.Proofs.YtlkdgfolbllngaaGreatDoor
end
section
set_option maxRecDepth 100000
namespace Go.Proofs.YtlkdgfolbllngaaGreatDoor
open Go.Sh Go.Pc
section
variable {T:TypeId} {F0 H0 F F' H H1 H':Heap} {pb sb d d':Nat} {l:List Tok} {σ σ' σ1 σ2:Except Nat Nat} {α β:Type} {sp sp':Sp} {a b:Option Addr} {ac bc:Nat}
end
end Go.Proofs.YtlkdgfolbllngaaGreatDoor
end
section
set_option maxRecDepth 100000
namespace Go.Proofs.YtlkdgfolbllngaaGreatDoor
open Go.Sh Go.Pc
section
variable {T:TypeId} {F0 H0 F F' H H1 H':Heap} {pb sb d d':Nat} {l:List Tok} {σ σ' σ1 σ2:Except Nat Nat} {α β:Type} {sp sp':Sp} {a b:Option Addr} {ac bc:Nat}
end
end Go.Proofs.YtlkdgfolbllngaaGreatDoor
end
section
set_option maxRecDepth 100000
namespace Go.Proofs.YtlkdgfolbllngaaGreatDoor
open Go.Sh Go.Pc
section
variable {F Fa Fb H H1 H':Heap} {α β:Type}
theorem Zbkt (k:Nat): ∀(vs:List (List Value)) (i j:Nat) (v:List Value),(∀u∈vs,u.length=k)->vs[i]? =some v->j<k->vs.flatten[i*k+j]? =v[j]?
 | [],i,j,v,_,h,_=>by simp at h
 | u::vs,0,j,v,hl,h,hj=>by
  simp only [List.getElem?_cons_zero,Option.some.injEq] at h;subst h;have hu:=hl u (by simp)
  rw [List.flatten_cons,Nat.zero_mul,Nat.zero_add,List.getElem?_append_left (by omega)]
 | u::vs,i+1,j,v,hl,h,hj=>by
  simp only [List.getElem?_cons_succ] at h;have hu:=hl u (by simp)
  rw [List.flatten_cons,List.getElem?_append_right (by rw [Nat.succ_mul];omega),hu,← Zbkt k vs i j v (fun u hu=>hl u (List.mem_cons_of_mem _ hu)) h hj]
  congr 1;rw [Nat.succ_mul];omega
theorem Zbc {P:Heap->List Value->α->Prop} {sz:Nat} {a:Option Addr} {c i:Nat} {z:Int} {l:List α} {x:α} (h:RwAt P sz F a c l) (fr:Keep Nil F H) (hP: ∀v x,P F v x->v.length=sz) (hx:l[i]? =some x) (hz:z=i) {K:Addr->Prop}
  (hK: ∀b o v,(∃o',a=some ⟨b,o',none⟩)->P F v x->H b≠none->(∀j,j<sz->H.cell ⟨b,o+j,none⟩=v[j]?)->K ⟨b,o,none⟩) (hsz:0<sz):NilP a fun q=>InB z l.length fun m=>elemAt q m sz K:=by
 obtain ⟨vs,hr,hl,hm⟩:=h.ex;have hi:i<l.length:=(List.getElem?_eq_some_iff.1 hx).1;have hv:vs[i]? =some (vs[i]'(by omega)):=List.getElem?_eq_getElem (by omega)
 have hlen: ∀u∈vs,u.length=sz:=fun u hu=>by obtain ⟨j,hj⟩:=List.mem_iff_getElem?.1 hu;have hj2:=(List.getElem?_eq_some_iff.1 hj).1;exact hP _ _ (hm j u _ hj (List.getElem?_eq_getElem (by omega)))
 generalize vs[i]'(by omega)=v at hv
 have hr2:=hr.keep fr fun _ _ h=>h;have hpos:0<l.length*sz:=Nat.mul_pos (by omega) hsz
 cases a with
 | none=>have:=hr.2;simp only at this;omega
 | some a=>
  obtain ⟨e2,c',T',fr',hb',_⟩:=hr2.2 hpos;obtain ⟨b,o,f⟩:=a;simp only at e2;subst e2;refine NilP.intro _ rfl (InB.intro i hz hi ?_);rw [Zud];refine hK b _ v ⟨o,rfl⟩ (hm i v x hv hx) (by
   have hb':H b=_:=hb';rw [hb'];simp) fun j hj=>?_
  have hlt:i*sz+j<l.length*sz:=by have:(i+1)*sz <= l.length*sz:=Nat.mul_le_mul_right _ hi;rw [Nat.succ_mul] at this;omega
  have:=hr2.cell (j:=i*sz+j) hlt;rw [Zbkt sz vs i j v hlen hv hj] at this;rw [← this];show H.cell ⟨b,o+i*sz+j,none⟩=H.cell ⟨b,o+(i*sz+j),none⟩;rw [Nat.add_assoc]
theorem Zcgn {va0:List Value} {c:Cd} (ha0:CdAt Fa va0 c): ∀{va vb:List Value} {H:Heap},CdAt Fa va c->CdAt Fb vb c->Keep Nil Fa H->Keep Nil Fb H->FnW Tryz.prog Zqu ⟨[.agg ⟨va⟩,.agg ⟨vb⟩]⟩ H fun v H'=>v= .bool true∧Keep Nil H H':=by
 induction ha0 with
 | mk op pa pl n a0 ca0 us l hr0 hl0 hc0 hm0 ih=>
  intro va vb H ha hb fa fb;cases ha with
  | mk _ _ _ _ a ca vs _ hr hl hc hm=>
  have hra:RwAt CdAt 5 Fa a ca l:=⟨⟨vs,hr,hl,hm⟩,hc⟩;cases hb with
  | mk _ _ _ _ b cb ws _ hr2 hl2 hc2 hm2=>
  have hrb:RwAt CdAt 5 Fb b cb l:=⟨⟨ws,hr2,hl2,hm2⟩,hc2⟩;refine Zclu op a l.length ca pa pl n op b l.length cb pa pl n ?_;unfold Zbtt;refine newB fun q H1 hq bq k1=>newB fun r H2 hr3 br k2=>?_;have bq2:=k2.blk bq fun h=>h;have k02:=k1.trans k2;refine ⟨_,cellL bq2 0 rfl,_,cellL br 0 rfl,ifF (by simp) ⟨_,cellL bq2 2 rfl,_,cellL bq2 3 rfl,_,cellL br 2 rfl,_,cellL br 3 rfl,by kernel_rfl,ifF (by simp) ⟨_,cellL bq2 4 rfl,_,cellL br 4 rfl,ifF (by simp) ⟨_,_,_,cellL bq2 1 rfl,_,_,_,cellL br 1 rfl,?_⟩⟩⟩⟩
  unfold Zti;refine ifF (by simp) (Zbt (fun m s Hx=>∃j:Nat,s=((j:Int),())∧m+j=l.length∧Keep Nil H2 Hx) l.length ⟨0,rfl,rfl,Keep.refl _ _⟩ ?_)
  rintro m s Hx ⟨j,rfl,hmj,kx⟩ g;have bqx:=kx.blk bq2 fun h=>h;have brx:=kx.blk br fun h=>h;have fax:=fa.trans (k02.trans kx);have fbx:=fb.trans (k02.trans kx);unfold Zbts;refine ⟨_,_,_,cellL bqx 1 rfl,IfB.intro (fun e=>?_) fun e H3 hs=>⟨rfl,Zi (k02.trans kx) hs⟩⟩;have e:=of_decide_eq_true e;simp only at e;have hjl:j<l.length:=by omega
  have hx:=List.getElem?_eq_getElem hjl;refine ⟨_,_,_,cellL bqx 1 rfl,Zbc (z:=((j:Nat):Int)) hra fax (fun _ _ h=>h.len) hx rfl (fun b1 o1 v1 _ h1 _ hc1=>?_) (by decide)⟩
  have h1':=h1;obtain ⟨z0,z1,z2,z3,z4,z5,z6,rfl⟩:=h1'.five;refine ld5c hc1 ⟨_,_,_,cellL brx 1 rfl,Zbc (z:=((j:Nat):Int)) hrb fbx (fun _ _ h=>h.len) hx rfl (fun b2 o2 v2 _ h2 _ hc2'=>?_) (by decide)⟩
  have h2':=h2;obtain ⟨y0,y1,y2,y3,y4,y5,y6,rfl⟩:=h2'.five;refine ld5c hc2' ((ih j (us[j]'(by omega)) _ (List.getElem?_eq_getElem (by omega)) hx h1 h2 fax fbx).mono ?_)
  rintro _ H5 ⟨rfl,k5⟩;exact ⟨_,rfl,ifF rfl ⟨m - 1,by omega,j+1,Prod.ext (by show IntKind.wrap .i64 ((j:Int)+1)=((j+1:Nat):Int);rw [Zbl (by omega) (by omega)];omega) rfl,by omega,kx.trans k5⟩⟩
theorem Zcgm {va vb:List Value} {c:Cd} (ha:CdAt Fa va c) (hb:CdAt Fb vb c) (fa:Keep Nil Fa H) (fb:Keep Nil Fb H):FnW Tryz.prog Zqu ⟨[.agg ⟨va⟩,.agg ⟨vb⟩]⟩ H fun v H'=>v= .bool true∧Keep Nil H H':=Zcgn ha ha hb fa fb
end
end Go.Proofs.YtlkdgfolbllngaaGreatDoor
end
section
set_option maxRecDepth 100000
namespace Go.Proofs.YtlkdgfolbllngaaGreatDoor
open Go.Sh Go.Pc
section
variable {F Fa Fb H H1 H':Heap} {α β:Type}
theorem Znz {q o:Nat} {op c0 c2 c3 c4 n m:Int} {ca a b:Option Addr} {cn ck an ac bn bc:Nat} {K:Int->Int->Option Addr->Nat->Nat->Int->Int->Int->Option Addr->Nat->Nat->Option Addr->Nat->Nat->Int->Int->Prop} (hc: ∀j,j<10->H.cell ⟨q,o+j,none⟩=([.int .i64 op,.int .i64 c0,.slice ca cn ck,.int .u32 c2,.int .i64 c3,.int .i64 c4,.slice a an ac,.slice b bn bc,.int .i64 n,.int .i64 m]:List Value)[j]?) (h:K op c0 ca cn ck c2 c3 c4 a an ac b bn bc n m):
  ∃x0:Int,H.cell ⟨q,o,none⟩=some (Value.int .i64 x0)∧∃x1:Int,H.cell ⟨q,o+1,none⟩=some (Value.int .i64 x1)∧∃(x2a:Option Addr) (x2n x2c:Nat),H.cell ⟨q,o+2,none⟩=some (Value.slice x2a x2n x2c)∧∃x3:Int,H.cell ⟨q,o+3,none⟩=some (Value.int .u32 x3)∧∃x4:Int,H.cell ⟨q,o+4,none⟩=some (Value.int .i64 x4)∧∃x5:Int,H.cell ⟨q,o+5,none⟩=some (Value.int .i64 x5)∧∃(x6a:Option Addr) (x6n x6c:Nat),H.cell ⟨q,o+6,none⟩=some (Value.slice x6a x6n x6c)∧∃(x7a:Option Addr) (x7n x7c:Nat),H.cell ⟨q,o+7,none⟩=some (Value.slice x7a x7n x7c)∧∃x8:Int,H.cell ⟨q,o+8,none⟩=some (Value.int .i64 x8)∧∃x9:Int,H.cell ⟨q,o+9,none⟩=some (Value.int .i64 x9)∧K x0 x1 x2a x2n x2c x3 x4 x5 x6a x6n x6c x7a x7n x7c x8 x9:=
 ⟨_,hc 0 (by decide),_,hc 1 (by decide),_,_,_,hc 2 (by decide),_,hc 3 (by decide),_,hc 4 (by decide),_,hc 5 (by decide),_,_,_,hc 6 (by decide),_,_,_,hc 7 (by decide),_,hc 8 (by decide),_,hc 9 (by decide),h⟩
theorem SmAt.inv {v:List Value} {op n m:Int} {c:Cd} {th el:List Sm} (h:SmAt F v (.mk op c th el n m)): ∃(c0:Int) (ca:Option Addr) (cn ck:Nat) (c2 c3 c4:Int) (a:Option Addr) (ac:Nat) (b:Option Addr) (bc:Nat),v= [.int .i64 op,.int .i64 c0,.slice ca cn ck,.int .u32 c2,.int .i64 c3,.int .i64 c4,.slice a th.length ac,.slice b el.length bc,.int .i64 n,.int .i64 m]∧CdAt F [.int .i64 c0,.slice ca cn ck,.int .u32 c2,.int .i64 c3,.int .i64 c4] c∧RwAt SmAt 10 F a ac th∧RwAt SmAt 10 F b bc el:=by
 cases h with
 | mk _ _ _ cv _ a b ac bc vs ws _ _ hcv hr hl hac hm hr2 hl2 hbc hm2=>
  have h5:=hcv;obtain ⟨_,_,_,_,_,_,_,rfl⟩:=h5.five;exact ⟨_,_,_,_,_,_,_,a,ac,b,bc,rfl,hcv,⟨⟨vs,hr,hl,hm⟩,hac⟩,⟨⟨ws,hr2,hl2,hm2⟩,hbc⟩⟩
def Zzu (Fa Fb:Heap) (ss:List Sm):Prop:=∀{a:Option Addr} {ac:Nat} {b:Option Addr} {bc:Nat} {H:Heap},RwAt SmAt 10 Fa a ac ss->RwAt SmAt 10 Fb b bc ss->Keep Nil Fa H->Keep Nil Fb H->
 FnW Tryz.prog Zng ⟨[.slice a ss.length ac,.slice b ss.length bc]⟩ H fun v H'=>v= .bool true∧Keep Nil H H'
def Ztq (Fa Fb:Heap):Sm->Prop
 | .mk _ _ th el _ _=>Zzu Fa Fb th∧Zzu Fa Fb el
theorem Zbfh {ss:List Sm} (h: ∀d∈ss,Ztq Fa Fb d):Zzu Fa Fb ss:=by
 intro a ac b bc H hra hrb fa fb;have hlim:=hra.cap.2;refine Zcll a ss.length ac b ss.length bc ?_;unfold Zbti;refine ifF (by simp) (Zbt (fun m s Hx=>∃j:Nat,s=((j:Int),())∧m+j=ss.length∧Keep Nil H Hx) ss.length ⟨0,rfl,rfl,Keep.refl _ _⟩ ?_)
 rintro m s Hx ⟨j,rfl,hmj,kx⟩ g;have fax:=fa.trans kx;have fbx:=fb.trans kx;unfold Zbth;refine IfB.intro (fun e=>?_) fun e H3 hs=>⟨rfl,Zi kx hs⟩;have e:=of_decide_eq_true e;simp only at e;have hjl:j<ss.length:=by omega
 have hx:=List.getElem?_eq_getElem hjl;have hmem:ss[j]∈ss:=List.getElem_mem hjl;generalize ss[j]=x at hx hmem;obtain ⟨xb,rfl⟩: ∃x,b=some x:=by
  obtain ⟨vs,hr,_⟩:=hrb.ex;cases b with
  | none=>have:=hr.2;simp only at this;omega
  | some x=>exact ⟨x,rfl⟩
 have hlive:Hx xb.block≠none:=by
  obtain ⟨vs,hr,_⟩:=hrb.ex;obtain ⟨_,c',T',fr',hb',_⟩:=(hr.keep fbx fun _ _ h=>h).2 (by omega)
  have hb':Hx xb.block=_:=hb';rw [hb'];simp
 refine ⟨[xb.block],Zrj hlive,Zbc (z:=((j:Nat):Int)) hra fax (fun _ _ h=>h.len) hx rfl (fun b1 o1 v1 _ h1 _ hc1=>?_) (by decide)⟩
 obtain ⟨op,c,th,el,n,mm⟩:=x;obtain ⟨x0,x1,x2,x3,x4,x5,x6,x7,x8,x9,x10,rfl,hcd1,hth1,hel1⟩:=h1.inv;refine Znz hc1 (Zbc (z:=((j:Nat):Int)) hrb fbx (fun _ _ h=>h.len) hx rfl (fun b2 o2 v2 hb2 h2 _ hc2=>?_) (by decide))
 obtain ⟨y0,y1,y2,y3,y4,y5,y6,y7,y8,y9,y10,rfl,hcd2,hth2,hel2⟩:=h2.inv;obtain ⟨o2',hb2'⟩:=hb2;refine ⟨by rw [Option.some.inj hb2'];simp,Znz hc2 (newB fun q H1 hq bq k1=>newB fun r H2 hr br k2=>?_)⟩
 have hqr:q≠r:=fun e=>by subst e;exact bq.some hr
 have bq2:=k2.blk bq fun h=>h;refine st10 bq2 fun H3 b3 k3=>?_;have k13:Keep Nil Hx H3:=(k1.trans k2).then k3 fun y hy=> .inr (hy▸hq);refine ⟨Zny hlive k13,st10 (k3.blk br fun e=>hqr e.symm) fun H4 b4 k4=>?_⟩;have b3':=k4.blk b3 hqr;have k14:Keep Nil Hx H4:=k13.then k4 fun y hy=> .inr (hy▸k1.free hr);refine ⟨_,cellL b3' 0 rfl,_,cellL b4 0 rfl,ifF (by simp) ⟨_,cellL b3' 8 rfl,_,cellL b4 8 rfl,ifF (by simp) ⟨_,cellL b3' 9 rfl,_,cellL b4 9 rfl,ifF (by simp) ?_⟩⟩⟩
 refine ⟨_,cellL b3' 1 rfl,_,_,_,cellL b3' 2 rfl,_,cellL b3' 3 rfl,_,cellL b3' 4 rfl,_,cellL b3' 5 rfl,_,cellL b4 1 rfl,_,_,_,cellL b4 2 rfl,_,cellL b4 3 rfl,_,cellL b4 4 rfl,_,cellL b4 5 rfl,(Zcgm hcd1 hcd2 (fax.trans k14) (fbx.trans k14)).mono ?_⟩;rintro _ H5 ⟨rfl,k5⟩;have b3'':=k5.blk b3' fun h=>h;have b4'':=k5.blk b4 fun h=>h;have k15:=k14.trans k5;have hk:=h _ hmem;refine ⟨_,rfl,ifF rfl ⟨_,_,_,cellL b3'' 6 rfl,_,_,_,cellL b4'' 6 rfl,(hk.1 hth1 hth2 (fax.trans k15) (fbx.trans k15)).mono ?_⟩⟩;rintro _ H6 ⟨rfl,k6⟩;have k16:=k15.trans k6;refine ⟨_,rfl,ifF rfl ⟨_,_,_,cellL (k6.blk b3'' fun h=>h) 7 rfl,_,_,_,cellL (k6.blk b4'' fun h=>h) 7 rfl,(hk.2 hel1 hel2 (fax.trans k16) (fbx.trans k16)).mono ?_⟩⟩;rintro _ H7 ⟨rfl,k7⟩;refine ⟨_,rfl,?_⟩;unfold Zmk;exact ifF rfl ⟨m - 1,by omega,j+1,Prod.ext (by show IntKind.wrap .i64 ((j:Int)+1)=((j+1:Nat):Int);rw [Zbl (by omega) (by omega)];omega) rfl,by omega,(kx.trans k16).trans k7⟩
theorem Zbdg {vs:List (List Value)} {th:List Sm} (hl:vs.length=th.length) (ih: ∀(i:Nat) (v:List Value) (d:Sm),vs[i]? =some v->th[i]? =some d->Ztq Fa Fb d): ∀d∈th,Ztq Fa Fb d:=fun d hd=>by obtain ⟨i,hi⟩:=List.mem_iff_getElem?.1 hd;have h2:=(List.getElem?_eq_some_iff.1 hi).1;exact ih i (vs[i]'(by omega)) d (List.getElem?_eq_getElem (by omega)) hi
theorem Zcgp {va:List Value} {s:Sm} (h:SmAt Fa va s):Ztq Fa Fb s:=by
 induction h with
 | mk op n m cv c a b ac bc vs ws th el hcv hr hl hac hm hr2 hl2 hbc hm2 ih ih2=>
  exact ⟨Zbfh (Zbdg hl ih),Zbfh (Zbdg hl2 ih2)⟩
theorem Zcgo {a:Option Addr} {ac:Nat} {b:Option Addr} {bc:Nat} {ss:List Sm} (ha:RwAt SmAt 10 Fa a ac ss) (hb:RwAt SmAt 10 Fb b bc ss) (fa:Keep Nil Fa H) (fb:Keep Nil Fb H):
  FnW Tryz.prog Zng ⟨[.slice a ss.length ac,.slice b ss.length bc]⟩ H fun v H'=>v= .bool true∧Keep Nil H H':=by
 obtain ⟨vs,hr,hl,hm⟩:=ha.ex;exact Zbfh (Zbdg hl fun i v d h1 h2=>Zcgp (hm i v d h1 h2)) ha hb fa fb
end
end Go.Proofs.YtlkdgfolbllngaaGreatDoor
end
section
set_option maxRecDepth 100000
namespace Go.Proofs.YtlkdgfolbllngaaGreatDoor
open Go.Sh Go.Pc
theorem Zbii (x:ByteArray):(x==x)=true:=by cases x;rename_i d;exact (BEq.rfl:(d==d)=true)
section
variable {F Fa Fb H H1 H':Heap} {α β:Type}
theorem ld7c {b o:Nat} {p:Pr} {K:ByteArray->Int->Int->Bool->Int->ByteArray->ByteArray->Prop} (hc: ∀j,j<7->H.cell ⟨b,o+j,none⟩=(prL p.name p.addr p.as_ p.waits p.max p.in_ p.out)[j]?) (h:K (bstr p.name) p.addr p.as_ p.waits p.max (bstr p.in_) (bstr p.out)):
  ∃x0:ByteArray,H.cell ⟨b,o,none⟩=some (Value.string x0)∧∃x1:Int,H.cell ⟨b,o+1,none⟩=some (Value.int .u32 x1)∧∃x2:Int,H.cell ⟨b,o+2,none⟩=some (Value.int .u32 x2)∧∃x3:Bool,H.cell ⟨b,o+3,none⟩=some (Value.bool x3)∧∃x4:Int,H.cell ⟨b,o+4,none⟩=some (Value.int .i64 x4)∧∃x5:ByteArray,H.cell ⟨b,o+5,none⟩=some (Value.string x5)∧∃x6:ByteArray,H.cell ⟨b,o+6,none⟩=some (Value.string x6)∧K x0 x1 x2 x3 x4 x5 x6:=
 ⟨_,hc 0 (by decide),_,hc 1 (by decide),_,hc 2 (by decide),_,hc 3 (by decide),_,hc 4 (by decide),_,hc 5 (by decide),_,hc 6 (by decide),h⟩
theorem Zcgl {va vb:List Value} {sp:Sp} (ha:SpV Fa va sp) (hb:SpV Fb vb sp) (fa:Keep Nil Fa H) (fb:Keep Nil Fb H):
  FnW Tryz.prog Zbbv ⟨[.agg ⟨va⟩,.agg ⟨vb⟩]⟩ H fun v H'=>v= .bool true∧Keep Nil H H':=by
 obtain ⟨a5,a6,c5,c6,rfl,pa,qa⟩:=ha.ex;obtain ⟨b5,b6,d5,d6,rfl,pb,qb⟩:=hb.ex;have lim1:=pa.cap.2;have lim2:=qa.cap.2;refine Zcle sp.as_ sp.router sp.hold sp.retry sp.grace a5 sp.pols.length c5 a6 sp.peers.length c6 sp.as_ sp.router sp.hold sp.retry sp.grace b5 sp.pols.length d5 b6 sp.peers.length d6 ?_;unfold Zbsw;refine newB fun q H1 hq bq k1=>newB fun r H2 hr br k2=>?_;have bq2:=k2.blk bq fun h=>h;have k02:=k1.trans k2;refine ⟨_,cellL bq2 0 rfl,_,cellL br 0 rfl,ifF (by simp) ⟨_,cellL bq2 1 rfl,_,cellL br 1 rfl,ifF (by simp) ⟨_,cellL bq2 2 rfl,_,cellL br 2 rfl,ifF (by simp) ⟨_,cellL bq2 3 rfl,_,cellL br 3 rfl,ifF (by simp) ⟨_,cellL bq2 4 rfl,_,cellL br 4 rfl,ifF (by simp) ⟨_,_,_,cellL bq2 5 rfl,_,_,_,cellL br 5 rfl,ifF (by simp) ⟨_,_,_,cellL bq2 6 rfl,_,_,_,cellL br 6 rfl,?_⟩⟩⟩⟩⟩⟩⟩
 unfold Zku;refine ifF (by simp) (Zbt (fun m s Hx=>∃j:Nat,s=((j:Int),())∧m+j=sp.pols.length∧Keep Nil H2 Hx) sp.pols.length ⟨0,rfl,rfl,Keep.refl _ _⟩ ?_)
 rintro m s Hx ⟨j,rfl,hmj,kx⟩ g;have bqx:=kx.blk bq2 fun h=>h;have brx:=kx.blk br fun h=>h;have fax:=fa.trans (k02.trans kx);have fbx:=fb.trans (k02.trans kx);unfold Zbsu;refine ⟨_,_,_,cellL bqx 5 rfl,IfB.intro (fun e=>?_) fun e=>?_⟩
 ·have e:=of_decide_eq_true e;simp only at e;have hjl:j<sp.pols.length:=by omega
  have hx:=List.getElem?_eq_getElem hjl;generalize sp.pols[j]=x at hx;refine ⟨_,_,_,cellL bqx 5 rfl,Zbc (z:=((j:Nat):Int)) pa fax (fun _ _ h=>h.len) hx rfl (fun b1 o1 v1 _ h1 _ hc1=>?_) (by decide)⟩
  obtain ⟨ra,rc,rfl,hrow1⟩:=h1;refine ⟨_,hc1 0 (by decide),_,_,_,cellL brx 5 rfl,Zbc (z:=((j:Nat):Int)) pb fbx (fun _ _ h=>h.len) hx rfl (fun b2 o2 v2 _ h2 _ hc2=>?_) (by decide)⟩
  obtain ⟨rb,rd,rfl,hrow2⟩:=h2;refine ⟨_,hc2 0 (by decide),ifF (by simp) ⟨_,_,_,cellL bqx 5 rfl,Zbc (z:=((j:Nat):Int)) pa fax (fun _ _ h=>h.len) hx rfl (fun b1 o1 v1 _ h1 _ hc1=>?_) (by decide)⟩⟩
  obtain ⟨ra,rc,rfl,hrow1⟩:=h1;refine ⟨_,_,_,hc1 1 (by decide),_,_,_,cellL brx 5 rfl,Zbc (z:=((j:Nat):Int)) pb fbx (fun _ _ h=>h.len) hx rfl (fun b2 o2 v2 _ h2 _ hc2=>?_) (by decide)⟩
  obtain ⟨rb,rd,rfl,hrow2⟩:=h2;refine ⟨_,_,_,hc2 1 (by decide),(Zcgo hrow1 hrow2 fax fbx).mono ?_⟩
  rintro _ H5 ⟨rfl,k5⟩;refine ⟨_,rfl,?_⟩;unfold Zbgx;exact ifF rfl ⟨m - 1,by omega,j+1,Prod.ext (by show IntKind.wrap .i64 ((j:Int)+1)=((j+1:Nat):Int);rw [Zbl (by omega) (by omega)];omega) rfl,by omega,kx.trans k5⟩
 ·refine Zbt (fun m s Hy=>∃j:Nat,s=((j:Int),())∧m+j=sp.peers.length∧Hy=Hx) sp.peers.length ⟨0,rfl,rfl,rfl⟩ ?_;rintro m s Hy ⟨j,rfl,hmj,e⟩ g;rw [e];clear e;unfold Zbsv;refine ⟨_,_,_,cellL bqx 6 rfl,IfB.intro (fun e=>?_) fun e H3 hs=>⟨rfl,Zi (k02.trans kx) hs⟩⟩;have e:=of_decide_eq_true e;simp only at e;have hjl:j<sp.peers.length:=by omega
  have hx:=List.getElem?_eq_getElem hjl;generalize sp.peers[j]=x at hx;have prl: ∀{F:Heap} (v:List Value) (p:Pr),PrAt F v p->v.length=7:=fun v p h=>by have h:v=_:=h;rw [h];rfl
  refine ⟨_,_,_,cellL bqx 6 rfl,Zbc (z:=((j:Nat):Int)) qa fax prl hx rfl (fun b1 o1 v1 _ h1 _ hc1=>?_) (by decide)⟩
  have h1:v1=_:=h1;subst h1;refine ld7c (p:=x) hc1 ⟨_,_,_,cellL brx 6 rfl,Zbc (z:=((j:Nat):Int)) qb fbx prl hx rfl (fun b2 o2 v2 _ h2 _ hc2=>?_) (by decide)⟩
  have h2:v2=_:=h2;subst h2;refine ld7c (p:=x) hc2 ⟨by kernel_rfl,ifF (by simp [Zbii]) ⟨m - 1,by omega,j+1,Prod.ext (by show IntKind.wrap .i64 ((j:Int)+1)=((j+1:Nat):Int);rw [Zbl (by omega) (by omega)];omega) rfl,by omega,rfl⟩⟩
def Zbfu:Sp:=⟨0,0,0,0,0,[],[]⟩
theorem SpV.zero:SpV emp spZ Zbfu:=⟨none,none,0,0,rfl,RwAt.nil,RwAt.nil⟩
theorem Zbjx:Keep Nil emp H:=⟨fun b _ h=>absurd rfl h,fun b h=>absurd rfl h⟩
end
end Go.Proofs.YtlkdgfolbllngaaGreatDoor
end
section
set_option maxRecDepth 100000
namespace Go.Proofs.YtlkdgfolbllngaaGreatDoor
open Go.Sh Go.Pc
theorem MkG {P:Program} {t:TypeId} {H:Heap} {K:Value->Heap->Prop} (h: ∀n,H n=none->K (.map (some n)) (H.upd n (.map ⟨[]⟩ 0))):MkW P t H K:=by unfold MkW;refine (SemW.bind _ _ _ _).2 ?_;unfold Instr.makeMap;exact fun n hn=>h n hn
theorem Zbal (a b:List UInt8):(bstr a==bstr b)=decide (a=b):=by show (a.toArray==b.toArray)=_;rw [Bool.eq_iff_iff];simp
def kvS (s:List UInt8):Value:= .string (bstr s)
theorem Zcap (s:ByteArray) (e:Bool) (H:Heap) (K:Unit->Heap->Prop):SemW Tryz.prog (Instr.checkKey e 10000 Zm (.string s)) H K=K () H:=by kernel_rfl
theorem Zcaq (a b:ByteArray):Zca Tryz.prog 6 Zm (.string a) (.string b)=some (a==b):=by kernel_rfl
theorem Zbrc:Tryz.prog.underlying Zm=some .string:=by kernel_rfl
theorem keyS:KeyTy Tryz.prog Zm kvS:=
 ⟨fun a e H K h=>by
  unfold kvS;rw [Zcap];exact h,fun a b=>by
  unfold kvS;rw [Zcaq,Zbal],fun a b d r hd h=>by
  rw [Zbrc] at hd;cases hd;unfold kvS at h;simp only [Instr.sameNow,Option.some.injEq] at h;rw [← h,← Zbal],⟨_,Zbrc⟩⟩
theorem Zbrz: ∃it,Tryz.prog.info? Zmp=some it∧it.zero=some (.int .i64 0):=by
 have h:(Tryz.prog.info? Zmp).map (fun i=>i.zero)=some (some (.int .i64 0)):=by kernel_rfl
 cases hi:Tryz.prog.info? Zmp with
 | none=>rw [hi] at h;cases h
 | some it=>
  rw [hi] at h;exact ⟨it,rfl,Option.some.inj h⟩
theorem mapS:MapG Tryz.prog Ziz Zm Zmp (.int .i64 0):=⟨by kernel_rfl,Zbrz⟩
def kvU (a:Int):Value:= .int .u32 a
theorem Zcar (a:Int) (e:Bool) (H:Heap) (K:Unit->Heap->Prop):SemW Tryz.prog (Instr.checkKey e 10000 Zpz (.int .u32 a)) H K=K () H:=by kernel_rfl
theorem Zcas (a b:Int):Zca Tryz.prog 6 Zpz (.int .u32 a) (.int .u32 b)=some (a==b):=by kernel_rfl
theorem Zbra:Tryz.prog.underlying Zpz=some (.int .u32):=by kernel_rfl
theorem keyU:KeyTy Tryz.prog Zpz kvU:=
 ⟨fun a e H K h=>by
  unfold kvU;rw [Zcar];exact h,fun a b=>by
  unfold kvU;rw [Zcas];congr 1,fun a b d r hd h=>by
  rw [Zbra] at hd;cases hd;unfold kvU at h;simp only [Instr.sameNow,if_true,Option.some.injEq] at h;rw [← h,Bool.eq_iff_iff];simp,⟨_,Zbra⟩⟩
theorem mapU:MapG Tryz.prog Zqa Zpz Zmp (.int .i64 0):=⟨by kernel_rfl,Zbrz⟩
section
variable {F H H1 H':Heap}
theorem Zrz (p:Pr):FnW Tryz.prog Znm ⟨[.agg ⟨prL p.name p.addr p.as_ p.waits p.max p.in_ p.out⟩]⟩ H fun v H'=>v=kvS p.name∧Keep Nil H H':=by refine Zcmr (bstr p.name) p.addr p.as_ p.waits p.max (bstr p.in_) (bstr p.out) ?_;unfold Zbvc;exact newB fun q H1 hq bq k1=>⟨_,cellL bq 0 rfl,fun H2 hs=>⟨rfl,Zi k1 hs⟩⟩
theorem Zry (p:Pr):FnW Tryz.prog Znn ⟨[.agg ⟨prL p.name p.addr p.as_ p.waits p.max p.in_ p.out⟩]⟩ H fun v H'=>v=kvU p.addr∧Keep Nil H H':=by refine Zcms (bstr p.name) p.addr p.as_ p.waits p.max (bstr p.in_) (bstr p.out) ?_;unfold Zbvd;exact newB fun q H1 hq bq k1=>⟨_,cellL bq 1 rfl,fun H2 hs=>⟨rfl,Zi k1 hs⟩⟩
theorem Zcji {a:Option Addr} {c:Nat} (f:FuncId):FnW Tryz.prog Zuv ⟨[.slice a 0 c,.func (.func f) #[] #[]]⟩ H fun v H'=>v= .bool false∧Keep Nil H H':=by refine Zbui a 0 c f ?_;unfold Zbhh;refine MkG fun mb hmb=>Zbt (fun m s Hx=>m=0∧s=(0,())∧Keep Nil H Hx) 0 ⟨rfl,rfl,(Keep.refl _ _).new hmb⟩ ?_;rintro m s Hx ⟨rfl,rfl,kx⟩ g;unfold Zbhg;exact ifF rfl fun H2 hs=>⟨rfl,Zi kx hs⟩
theorem Zcjh {a:Option Addr} {c:Nat} {p:Pr} (hr:RwAt PrAt 7 F a c [p]) (fr:Keep Nil F H):FnW Tryz.prog Zut ⟨[.slice a 1 c,.func (.func Znm) #[] #[]]⟩ H fun v H'=>v= .bool false∧Keep Nil H H':=by
 refine Zbud a 1 c Znm ?_;unfold Zbhe;refine MkG fun mb hmb=>Zbt (fun m s Hx=>Keep Nil H Hx∧((m=1∧s=(0,())∧MapB kvS Hx mb [] 0)∨(m=0∧s=(1,())))) 1 ⟨(Keep.refl _ _).new hmb,.inl ⟨rfl,rfl,upd_eq⟩⟩ ?_;rintro m s Hx ⟨kx,(⟨rfl,rfl,hm⟩ | ⟨rfl,rfl⟩)⟩ g
 ·unfold Zzg;have prl: ∀(v:List Value) (p:Pr),PrAt F v p->v.length=7:=fun v p h=>by have h:v=_:=h;rw [h];rfl
  refine ifT rfl (Zbc (i:=0) (z:=0) hr (fr.trans kx) prl rfl rfl (fun b1 o1 v1 _ h1 _ hc1=>?_) (by decide))
  have h1:v1=_:=h1;subst h1;refine ld7c (p:=p) hc1 (newB fun x H2 hx bx k2=>st7 (nm:=p.name) (i_:=p.in_) (o_:=p.out) bx fun H3 b3 k3=>ld7 b3 ((Zrz p).mono ?_));rintro _ H4 ⟨rfl,k4⟩;have b4:=k4.blk b3 fun h=>h;have k34:Keep Nil Hx H4:=(k2.then k3 fun y hy=> .inr (hy▸hx)).trans k4;have hm4:=hm.keep k34 fun h=>h;have hxm:x≠mb:=fun e=>by subst e;exact hm.some hx
  refine ⟨_,rfl,LkG keyS mapS hm4 ?_⟩;refine ⟨_,rfl,(SemW.bind _ _ _ _).2 (MuG keyS mapS hm4 rfl fun H5 e5=>?_)⟩;have hm5:MapB kvS H5 mb [(p.name,.int .i64 (IntKind.wrap .i64 (0+1)),0)] 1:=by rw [e5];exact upd_eq
  have k5:Keep (fun y=>y=mb) H4 H5:=by rw [e5];exact (Keep.refl _ _).upd (.inl rfl)
  have b5:=k5.blk b4 hxm;have k05:Keep Nil H H5:=(kx.trans k34).then k5 fun y hy=> .inr (hy▸hmb);dsimp only [SemW,pure,Sem.pure,Zw];refine ld7 b5 ((Zrz p).mono ?_);rintro _ H6 ⟨rfl,k6⟩;refine ⟨_,rfl,LkG keyS mapS (hm5.keep k6 fun h=>h) ?_⟩;rw [show getG p.name [(p.name,Value.int .i64 (IntKind.wrap .i64 (0+1)),0)]=some (.int .i64 (IntKind.wrap .i64 (0+1))) from if_pos rfl]
  exact ⟨_,rfl,ifF (by decide) ⟨0,by omega,k05.trans k6,.inr ⟨rfl,rfl⟩⟩⟩
 unfold Zzg;exact ifF rfl fun H2 hs=>⟨rfl,Zi kx hs⟩
theorem Zcjg {a:Option Addr} {c:Nat} {p:Pr} (hr:RwAt PrAt 7 F a c [p]) (fr:Keep Nil F H):FnW Tryz.prog Zuu ⟨[.slice a 1 c,.func (.func Znn) #[] #[]]⟩ H fun v H'=>v= .bool false∧Keep Nil H H':=by
 refine Zbue a 1 c Znn ?_;unfold Zbhf;refine MkG fun mb hmb=>Zbt (fun m s Hx=>Keep Nil H Hx∧((m=1∧s=(0,())∧MapB kvU Hx mb [] 0)∨(m=0∧s=(1,())))) 1 ⟨(Keep.refl _ _).new hmb,.inl ⟨rfl,rfl,upd_eq⟩⟩ ?_;rintro m s Hx ⟨kx,(⟨rfl,rfl,hm⟩ | ⟨rfl,rfl⟩)⟩ g
 ·unfold Zzh;have prl: ∀(v:List Value) (p:Pr),PrAt F v p->v.length=7:=fun v p h=>by have h:v=_:=h;rw [h];rfl
  refine ifT rfl (Zbc (i:=0) (z:=0) hr (fr.trans kx) prl rfl rfl (fun b1 o1 v1 _ h1 _ hc1=>?_) (by decide))
  have h1:v1=_:=h1;subst h1;refine ld7c (p:=p) hc1 (newB fun x H2 hx bx k2=>st7 (nm:=p.name) (i_:=p.in_) (o_:=p.out) bx fun H3 b3 k3=>ld7 b3 ((Zry p).mono ?_));rintro _ H4 ⟨rfl,k4⟩;have b4:=k4.blk b3 fun h=>h;have k34:Keep Nil Hx H4:=(k2.then k3 fun y hy=> .inr (hy▸hx)).trans k4;have hm4:=hm.keep k34 fun h=>h;have hxm:x≠mb:=fun e=>by subst e;exact hm.some hx
  refine ⟨_,rfl,LkG keyU mapU hm4 ?_⟩;refine ⟨_,rfl,(SemW.bind _ _ _ _).2 (MuG keyU mapU hm4 rfl fun H5 e5=>?_)⟩;have hm5:MapB kvU H5 mb [(p.addr,.int .i64 (IntKind.wrap .i64 (0+1)),0)] 1:=by rw [e5];exact upd_eq
  have k5:Keep (fun y=>y=mb) H4 H5:=by rw [e5];exact (Keep.refl _ _).upd (.inl rfl)
  have b5:=k5.blk b4 hxm;have k05:Keep Nil H H5:=(kx.trans k34).then k5 fun y hy=> .inr (hy▸hmb);dsimp only [SemW,pure,Sem.pure,Zw];refine ld7 b5 ((Zry p).mono ?_);rintro _ H6 ⟨rfl,k6⟩;refine ⟨_,rfl,LkG keyU mapU (hm5.keep k6 fun h=>h) ?_⟩;rw [show getG p.addr [(p.addr,Value.int .i64 (IntKind.wrap .i64 (0+1)),0)]=some (.int .i64 (IntKind.wrap .i64 (0+1))) from if_pos rfl]
  exact ⟨_,rfl,ifF (by decide) ⟨0,by omega,k05.trans k6,.inr ⟨rfl,rfl⟩⟩⟩
 unfold Zzh;exact ifF rfl fun H2 hs=>⟨rfl,Zi kx hs⟩
end
end Go.Proofs.YtlkdgfolbllngaaGreatDoor
end
section
set_option maxRecDepth 100000
namespace Go.Proofs.YtlkdgfolbllngaaGreatDoor
open Go.Sh Go.Pc
def prW:Pr:=⟨[97],167772162,65001,true,0,[],[]⟩
def spW:Sp:=⟨65000,167772161,90,30,0,[],[prW]⟩
section
variable {F H H1 H':Heap}
theorem Zbpm {b o:Nat}:FnW Tryz.prog Zra ⟨[.string (bstr []),.pointer (some ⟨b,o,none⟩)]⟩ H fun v H'=>v= .bool true∧Keep Nil H H':=by refine Zbuz (bstr []) b o ?_;unfold Zbhm;refine newB fun q H1 hq bq k1=>⟨_,cellL bq 0 rfl,ifT ?_ fun H2 hs=>⟨rfl,Zi k1 hs⟩⟩;show ((bstr []).toList==(bstr []).toList)=true;simp
theorem Zcfv {a b:Option Addr} {an ac bn bc:Nat}:FnW Tryz.prog Zur ⟨[.agg ⟨[.int .u32 65000,.int .u32 167772161,.int .i64 90,.int .i64 30,.int .i64 0,.slice a an ac,.slice b bn bc]⟩,.agg ⟨prL [97] 167772162 65001 true 0 [] []⟩]⟩ H fun v H'=>v= .bool true∧Keep Nil H H':=by
 refine Zbtq 65000 167772161 90 30 0 a an ac b bn bc (bstr [97]) 167772162 65001 true 0 (bstr []) (bstr []) ?_;unfold Zbhb;refine newB fun q H1 hq bq k1=>newB fun r H2 hr br k2=>?_;have bq2:=k2.blk bq fun h=>h;refine ⟨_,cellL br 1 rfl,ifF (by decide) ⟨_,cellL br 1 rfl,_,cellL bq2 1 rfl,ifF (by decide) ⟨_,cellL br 2 rfl,ifF (by decide) ⟨_,cellL br 4 rfl,ifF (by decide) ⟨_,cellL br 4 rfl,?_⟩⟩⟩⟩⟩
 unfold Zkx;refine ifF (by decide) ⟨_,cellL br 5 rfl,Zbpm.mono ?_⟩
 rintro _ H3 ⟨rfl,k3⟩;refine ⟨_,rfl,ifT rfl ⟨_,cellL (k3.blk br fun h=>h) 6 rfl,Zbpm.mono ?_⟩⟩;rintro _ H4 ⟨rfl,k4⟩;exact ⟨_,rfl,fun H5 hs=>⟨rfl,Zi (((k1.trans k2).trans k3).trans k4) hs⟩⟩
theorem Zbxw {s:Nat} {a b:Option Addr} {an ac bn bc:Nat} (hs:Blk H s Zcc ⟨[.int .u32 65000,.int .u32 167772161,.int .i64 90,.int .i64 30,.int .i64 0,.slice a an ac,.slice b bn bc]⟩):FnW Tryz.prog Znl ⟨[.agg ⟨prL [97] 167772162 65001 true 0 [] []⟩,.pointer (some ⟨s,0,none⟩)]⟩ H fun v H'=>v= .bool false∧Keep Nil H H':=by refine Zbuu (bstr [97]) 167772162 65001 true 0 (bstr []) (bstr []) s 0 ?_;unfold Zbhl;refine newB fun q H1 hq bq k1=>?_;have bs:=k1.blk hs fun h=>h;refine ⟨_,cellL bs 0 rfl,_,cellL bs 1 rfl,_,cellL bs 2 rfl,_,cellL bs 3 rfl,_,cellL bs 4 rfl,_,_,_,cellL bs 5 rfl,_,_,_,cellL bs 6 rfl,ld7 (nm:=[97]) (i_:=[]) (o_:=[]) bq (Zcfv.mono ?_)⟩;rintro _ H2 ⟨rfl,k2⟩;exact ⟨_,rfl,fun H5 hs=>⟨rfl,Zi (k1.trans k2) hs⟩⟩
theorem Zbxx {vs:List Value} (hv:SpV F vs spW) (fr:Keep Nil F H):FnW Tryz.prog Zll ⟨[.agg ⟨vs⟩]⟩ H fun v H'=>v= .int .i64 0∧Keep Nil H H':=by
 obtain ⟨a,b,ac,bc,rfl,ha,hb⟩:=hv.ex;refine Zbuq 65000 167772161 90 30 0 a 0 ac b 1 bc ?_;unfold Zbhj;refine newB fun s H1 hs bs k1=>?_;refine ⟨_,cellL bs 0 rfl,ifF (by decide) ⟨_,cellL bs 1 rfl,ifF (by decide) ⟨_,cellL bs 2 rfl,ifF (by decide) ⟨_,cellL bs 2 rfl,ifF (by decide) ⟨_,cellL bs 2 rfl,ifF (by decide) ⟨_,cellL bs 2 rfl,?_⟩⟩⟩⟩⟩⟩
 unfold Zjp;refine ifF (by decide) ⟨_,cellL bs 3 rfl,ifF (by decide) ⟨_,cellL bs 3 rfl,ifF (by decide) ⟨_,cellL bs 4 rfl,ifF (by decide) ⟨_,cellL bs 4 rfl,?_⟩⟩⟩⟩
 unfold Zml;refine ifF (by decide) ⟨_,_,_,cellL bs 5 rfl,ifF (by decide) ⟨_,_,_,cellL bs 6 rfl,?_⟩⟩
 unfold Ztm;refine ifF (by decide) ⟨_,_,_,cellL bs 5 rfl,(Zcji Zrc).mono ?_⟩
 rintro _ H2 ⟨rfl,k2⟩;have bs2:=k2.blk bs fun h=>h;have f2:=fr.trans (k1.trans k2);refine ⟨_,rfl,ifF rfl ⟨_,_,_,cellL bs2 6 rfl,(Zcjh hb f2).mono ?_⟩⟩;rintro _ H3 ⟨rfl,k3⟩;have bs3:=k3.blk bs2 fun h=>h;have f3:=f2.trans k3;refine ⟨_,rfl,ifF rfl ⟨_,_,_,cellL bs3 6 rfl,(Zcjg hb f3).mono ?_⟩⟩;rintro _ H4 ⟨rfl,k4⟩;have bs4:=k4.blk bs3 fun h=>h;have f4:=f3.trans k4;have k04:=((k1.trans k2).trans k3).trans k4;refine ⟨_,rfl,?_⟩;unfold Zpl;refine ifF rfl ⟨_,_,_,cellL bs4 5 rfl,?_⟩;refine FnW.mono (R:=fun v H'=>v= .bool false∧Keep Nil H4 H') ?_ ?_;refine Zbtx a 0 ac Zbck ?_;unfold Zbhc;refine FnW.mono (R:=fun v H'=>v= .int .i64 (-1)∧Keep Nil H4 H') ?_ ?_;refine Zbtg a 0 ac Zbck ?_;unfold Zbha;refine Zbt (fun m s Hx=>s=(0,())∧Hx=H4) 0 ⟨rfl,rfl⟩ ?_;rintro m s Hx ⟨rfl,e⟩ g;rw [e];unfold Zbgz;exact ifF rfl fun H5 hs=>⟨rfl,Zi (Keep.refl _ _) hs⟩;rintro _ H5 ⟨rfl,k5⟩;exact ⟨_,rfl,fun H6 hs=>⟨rfl,Zi k5 hs⟩⟩;rintro _ H5 ⟨rfl,k5⟩;have bs5:=k5.blk bs4 fun h=>h;have f5:=f4.trans k5;refine ⟨_,rfl,ifF rfl ⟨_,_,_,cellL bs5 6 rfl,?_⟩⟩;refine FnW.mono (R:=fun v H'=>v= .bool false∧Keep Nil H5 H') ?_ ?_
 ·refine Zbvo b 1 bc Znl (.pointer (some ⟨s,0,none⟩)) ?_;unfold Zbhn;refine FnW.mono (R:=fun v H'=>v= .int .i64 (-1)∧Keep Nil H5 H') ?_ ?_
  ·refine Zbup b 1 bc Znl (.pointer (some ⟨s,0,none⟩)) ?_;unfold Zbhi;refine Zbt (fun m s Hx=>Keep Nil H5 Hx∧((m=1∧s=(0,()))∨(m=0∧s=(1,())))) 1 ⟨Keep.refl _ _,.inl ⟨rfl,rfl⟩⟩ ?_;rintro m t Hx ⟨kx,(⟨rfl,rfl⟩ | ⟨rfl,rfl⟩)⟩ g
   ·unfold Zzk;have prl: ∀(v:List Value) (p:Pr),PrAt F v p->v.length=7:=fun v p h=>by have h:v=_:=h;rw [h];rfl
    refine ifT rfl (Zbc (i:=0) (z:=0) hb (f5.trans kx) prl rfl rfl (fun b1 o1 v1 _ h1 _ hc1=>?_) (by decide))
    have h1:v1=_:=h1;subst h1;refine ld7c (p:=prW) hc1 ((Zbxw (kx.blk bs5 fun h=>h)).mono ?_);rintro _ H6 ⟨rfl,k6⟩;exact ⟨_,rfl,ifF rfl ⟨0,by omega,kx.trans k6,.inr ⟨rfl,rfl⟩⟩⟩
   unfold Zzk;exact ifF rfl fun H6 hs=>⟨rfl,Zi kx hs⟩
  rintro _ H6 ⟨rfl,k6⟩;exact ⟨_,rfl,fun H7 hs=>⟨rfl,Zi k6 hs⟩⟩
 rintro _ H6 ⟨rfl,k6⟩;exact ⟨_,rfl,ifF rfl fun H7 hs=>⟨rfl,Zi ((k04.trans k5).trans k6) hs⟩⟩
end
end Go.Proofs.YtlkdgfolbllngaaGreatDoor
end
section
set_option maxRecDepth 100000
namespace Go.Proofs.YtlkdgfolbllngaaGreatDoor
open Go.Sh Go.Pc
def Zbrk:List UInt8:=[115,121,115,116,101,109,32,54,53,48,48,48,59,32,114,111,117,116,101,114,32,49,48,46,48,46,48,46,49,59,32,112,101,101,114,32,97,32,49,48,46,48,46,48,46,50,32,97,115,32,54,53,48,48,49,32,119,97,105,116,115,59]
theorem Zcdj:Zdr Zbrk= .ok spW:=by kernel_rfl
section
variable {F H H1 H':Heap}
theorem Zcka (hy:Lyd H):FnW Tryz.prog Zbcj ⟨[]⟩ H fun v H'=>v= .bool true∧Keep Nil H H':=by
 refine Zcnl ?_;unfold Zbwa;refine (Zyw (s:=Zbrk) hy (by decide)).mono ?_
 rintro v H1 ⟨k1,hp⟩;rw [Zcdj] at hp;obtain ⟨F,vs,rfl,hv,fr,_,_⟩:=hp;have hv2:=hv;obtain ⟨a,b,ac,bc,rfl,ha,hb⟩:=hv2.ex;refine ⟨_,_,_,_,_,_,_,_,_,_,_,_,_,rfl,newB fun s H2 hs bs k2=>st7s bs fun H3 b3 k3=>?_⟩;have k13:Keep Nil H1 H3:=k2.then k3 fun y hy=> .inr (hy▸hs);have fr3:=fr.trans k13;have prl: ∀(v:List Value) (p:Pr),PrAt F v p->v.length=7:=fun v p h=>by have h:v=_:=h;rw [h];rfl
 refine ifT rfl ⟨_,cellL b3 0 rfl,ifT (by decide) ⟨_,cellL b3 1 rfl,ifT (by decide) ⟨_,cellL b3 2 rfl,ifT (by decide) ⟨_,_,_,cellL b3 6 rfl,ifT (by decide) ⟨_,_,_,cellL b3 6 rfl,Zbc (i:=0) (z:=0) hb fr3 prl rfl rfl (fun b1 o1 v1 _ h1 _ hc1=>?_) (by decide)⟩⟩⟩⟩⟩
 have h1:v1=_:=h1;subst h1;refine ld7c (p:=prW) hc1 ⟨by kernel_rfl,ifT ?_ (ld7s b3 ((Zbxx hv fr3).mono ?_))⟩
 show (bstr [97]==bstr [97]&&((167772162:Int)==167772162&&((65001:Int)==65001&&(true==true&&((0:Int)==0&&(bstr []==bstr []&&(bstr []==bstr []&&true)))))))=true;simp [Zbii];rintro _ H4 ⟨rfl,k4⟩;exact ⟨_,rfl,fun H5 hs=>⟨rfl,Zi ((k1.trans k13).trans k4) hs⟩⟩
end
end Go.Proofs.YtlkdgfolbllngaaGreatDoor
end
