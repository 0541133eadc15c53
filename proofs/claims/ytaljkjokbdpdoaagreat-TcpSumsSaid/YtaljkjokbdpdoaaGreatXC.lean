/-
  Numbers and bytes that are handed in.
-/
import Derived.Test.YtaljkjokbdpdoaaGreatBA
import Derived.Test.YtaljkjokbdpdoaaGreatCA
import Derived.Test.YtaljkjokbdpdoaaGreatCP
import Derived.Test.YtaljkjokbdpdoaaGreatEC
import Derived.Deep.Slices
import Derived.Test.YtaljkjokbdpdoaaGreatXB
import Derived.Test.YtaljkjokbdpdoaaGreatTA
set_option linter.all false
section
set_option maxRecDepth 100000
namespace Go.Proofs.YtaljkjokbdpdoaaGreat
open Go.Sh Go.Pc Go.Conn Go.ChangeShapes Go.WideShapes Go.ChangeAt Go.RowKit
theorem Zcct:Tryz.prog.underlying Zl=some (.int .i64):=by kernel_rfl
theorem Zbbl:Tryz.prog.underlying Zfg=some (.int .u32):=by kernel_rfl
theorem Zccw:Tryz.prog.underlying Zh=some (.int .u8):=by kernel_rfl
theorem Zbja:Tryz.prog.underlying Zbs=some .bool:=by kernel_rfl
theorem Zccs:Tryz.prog.underlying Zd=some (.slice Zh):=by kernel_rfl
theorem Zbtw:Tryz.prog.cellsOf Zl=1:=by kernel_rfl
theorem Zbty:Tryz.prog.cellsOf Zfg=1:=by kernel_rfl
theorem c_u8:Tryz.prog.cellsOf Zh=1:=by kernel_rfl
theorem Zbtu:Tryz.prog.cellsOf Zbs=1:=by kernel_rfl
theorem Zbtv:Tryz.prog.cellsOf Zd=1:=by kernel_rfl
section
variable {W:World} {H:Type} {enc:TypeId×Value->H}
theorem Zbtd {x:Int} {d:DataW H} {ps:List MemPlace} (h:DataW.Trod enc Tryz.prog W 0 (fun _=>true) true Zfg (.int .u32 x) d ps): ∃z:Nat,z<4294967296∧x=z:=by
  obtain ⟨fuel,h⟩:=h;obtain ⟨m,hm,_,hwf⟩:=DataW.trod_int Zbbl h;have hm:x=m:=by simp only [Value.cells,List.cons.injEq,and_true] at hm;cases hm;rfl
  subst hm;have hr:0 <= x∧x<4294967296:=by have hm1:IntKind.u32.min=0:=rfl;have hM:IntKind.u32.max=4294967295:=rfl;simp [Lit.wf,hm1,hM] at hwf;omega
  exact ⟨x.toNat,by omega,by omega⟩
end
end Go.Proofs.YtaljkjokbdpdoaaGreat
end
section
set_option maxRecDepth 100000
namespace Go.Proofs.YtaljkjokbdpdoaaGreat
open Go.Sh Go.Pc Go.Conn Go.ChangeShapes Go.WideShapes Go.ChangeAt Go.RowKit
theorem Zccv:Tryz.prog.underlying Zm=some (.struct #[⟨ "From",Zl,0,false,"","",0⟩,⟨ "To",Zl,1,false,"","",8⟩,⟨ "Seq",Zfg,2,false,"","",16⟩,⟨ "Ack",Zfg,3,false,"","",20⟩,⟨ "Flags",Zl,4,false,"","",24⟩,⟨ "Window",Zl,5,false,"","",32⟩,⟨ "Urgent",Zl,6,false,"","",40⟩,⟨ "Greatest",Zl,7,false,"","",48⟩,⟨ "Data",Zd,8,false,"","",56⟩]):=by kernel_rfl
theorem Zccr:Tryz.prog.underlying Ziz=some (.struct #[⟨ "Do",Zl,0,false,"","",0⟩,⟨ "Now",Zl,1,false,"","",8⟩,⟨ "N",Zl,2,false,"","",16⟩,⟨ "By",Zl,3,false,"","",24⟩,⟨ "From",Zgr,4,false,"","",32⟩,⟨ "B",Zd,5,false,"","",40⟩,⟨ "S",Zm,6,false,"","",64⟩,⟨ "Built",Zbs,15,false,"","",144⟩,⟨ "Near",Zbs,16,false,"","",145⟩]):=by kernel_rfl
theorem Zbiz:Tryz.prog.underlying Znx=some (.slice Ziz):=by kernel_rfl
theorem Zbtx:Tryz.prog.cellsOf Zm=9:=by kernel_rfl
theorem Zbbk:Tryz.prog.underlying Zgr=some (.int .u32):=by kernel_rfl
theorem Zbtt:Tryz.prog.cellsOf Zgr=1:=by kernel_rfl
theorem Zbdw:Tryz.prog.cellsOf Ziz=17:=by kernel_rfl
def Zns (H:Heap) (b o:Nat):Prop:=∃(d now n by_:Int) (fr:Nat) (ba:Option Addr) (bn bc:Nat) (s:Sg) (da:Option Addr) (dn dc:Nat) (built near:Bool) (bs:List Int),
  (∀t,t<17->H.cell ⟨b,o+t,none⟩=(actL d now n by_ fr ba bn bc s.src s.dst s.seq s.ack s.flags s.win s.urg s.big da dn dc built near)[t]?)∧fr<4294967296∧Reads H ba bn (bv bs)∧AllB bs∧bn <= bc∧Reads H da dn (bv s.data)∧AllB s.data∧dn <= dc
def Ziy (H:Heap) (a:Option Addr) (n:Nat):Prop:=∀i,i<n->∃b o,a=some ⟨b,o,none⟩∧Zns H b (o+i*17)
section
variable {H:Type} {enc:TypeId×Value->H} {W:World}
theorem Zfh {l:List Value} {n o:Nat} {x:DataW H×List MemPlace} (h:DataW.trod enc Tryz.prog W 0 (fun _=>true) true n Zl ((l.drop o).take (Tryz.prog.cellsOf Zl))=some x): ∃z,l[o]? =some (.int .i64 z):=by obtain ⟨m,hm,_⟩:=DataW.trod_int Zcct h;rw [Zbtw] at hm;exact ⟨m,Zmx hm⟩
theorem Zbdo {l:List Value} {n o:Nat} {x:DataW H×List MemPlace} (h:DataW.trod enc Tryz.prog W 0 (fun _=>true) true n Zfg ((l.drop o).take (Tryz.prog.cellsOf Zfg))=some x): ∃z:Nat,z<4294967296∧l[o]? =some (.int .u32 z):=by
  obtain ⟨m,hm,_,hwf⟩:=DataW.trod_int Zbbl h;rw [Zbty] at hm;have hr:0 <= m∧m<4294967296:=by have hm1:IntKind.u32.min=0:=rfl;have hM:IntKind.u32.max=4294967295:=rfl;simp [Lit.wf,hm1,hM] at hwf;omega
  refine ⟨m.toNat,by omega,?_⟩
  have e:((m.toNat:Nat):Int)=m:=by omega
  rw [e];exact Zmx hm
theorem Zbtf {l:List Value} {n o:Nat} {x:DataW H×List MemPlace} (h:DataW.trod enc Tryz.prog W 0 (fun _=>true) true n Zgr ((l.drop o).take (Tryz.prog.cellsOf Zgr))=some x): ∃z:Nat,z<4294967296∧l[o]? =some (.int .u32 z):=by
  obtain ⟨m,hm,_,hwf⟩:=DataW.trod_int Zbbk h;rw [Zbtt] at hm;have hr:0 <= m∧m<4294967296:=by have hm1:IntKind.u32.min=0:=rfl;have hM:IntKind.u32.max=4294967295:=rfl;simp [Lit.wf,hm1,hM] at hwf;omega
  refine ⟨m.toNat,by omega,?_⟩
  have e:((m.toNat:Nat):Int)=m:=by omega
  rw [e];exact Zmx hm
theorem Zbdl {l:List Value} {n o:Nat} {x:DataW H×List MemPlace} (h:DataW.trod enc Tryz.prog W 0 (fun _=>true) true n Zbs ((l.drop o).take (Tryz.prog.cellsOf Zbs))=some x): ∃z,l[o]? =some (.bool z):=by obtain ⟨m,hm,_⟩:=DataW.trod_bool Zbja h;rw [Zbtu] at hm;exact ⟨m,Zmx hm⟩
theorem Zbdm {l:List Value} {n o:Nat} {x:DataW H×List MemPlace} (h:DataW.trod enc Tryz.prog W 0 (fun _=>true) true n Zd ((l.drop o).take (Tryz.prog.cellsOf Zd))=some x): ∃a k c bs,l[o]? =some (.slice a k c)∧k <= c∧Reads (hp W) a k (bv bs)∧AllB bs:=by
  obtain ⟨a,k,c,bs,hm,h2,_,h4⟩:=Zccq Zccs Zccw c_u8 h;rw [Zbtv] at hm;refine ⟨a,k,c,bs.map fun x=>(x.toNat:Int),Zmx hm,h2,?_,fun x hx=>?_⟩
  . have:bv (bs.map fun x=>(x.toNat:Int))=bs.map fun x=>Value.int .u8 x.toNat:=by simp [bv]
    rw [this];exact h4
  obtain ⟨z,_,rfl⟩:=List.mem_map.1 hx;have:=z.toNat_lt;exact ⟨by omega,by omega⟩
theorem Zbtg {l:List Value} {n:Nat} {x:DataW H×List MemPlace} (h:DataW.trod enc Tryz.prog W 0 (fun _=>true) true n Zm l=some x):
    ∃s da dn dc,(∀t,t<9->l[t]? =(sgL s da dn dc)[t]?)∧Reads (hp W) da dn (bv s.data)∧dn <= dc∧s.seq<4294967296∧s.ack<4294967296∧AllB s.data:=by
  obtain ⟨xs,n1,_,_,hl2,hxl,hf⟩:=DataW.trod_struct Zccv h;have get: ∀(k:Nat) (f:Field),k<9->(#[⟨ "From",Zl,0,false,"","",0⟩,⟨ "To",Zl,1,false,"","",8⟩,⟨ "Seq",Zfg,2,false,"","",16⟩,⟨ "Ack",Zfg,3,false,"","",20⟩,⟨ "Flags",Zl,4,false,"","",24⟩,⟨ "Window",Zl,5,false,"","",32⟩,⟨ "Urgent",Zl,6,false,"","",40⟩,⟨ "Greatest",Zl,7,false,"","",48⟩,⟨ "Data",Zd,8,false,"","",56⟩]:Array Field)[k]? =some f->∃x,DataW.trod enc Tryz.prog W 0 (fun _=>true) true n1 f.type ((l.drop f.offset).take (Tryz.prog.cellsOf f.type))=some x:=by
    intro k f hk he;refine ⟨xs[k]'(by rw [hxl];exact hk),?_⟩
    rw [hf k f he];exact List.getElem?_eq_getElem _
  obtain ⟨_,g0⟩:=get 0 _ (by omega) rfl
  obtain ⟨_,g1⟩:=get 1 _ (by omega) rfl
  obtain ⟨_,g2⟩:=get 2 _ (by omega) rfl
  obtain ⟨_,g3⟩:=get 3 _ (by omega) rfl
  obtain ⟨_,g4⟩:=get 4 _ (by omega) rfl
  obtain ⟨_,g5⟩:=get 5 _ (by omega) rfl
  obtain ⟨_,g6⟩:=get 6 _ (by omega) rfl
  obtain ⟨_,g7⟩:=get 7 _ (by omega) rfl
  obtain ⟨_,g8⟩:=get 8 _ (by omega) rfl
  obtain ⟨z0,e0⟩:=Zfh g0;obtain ⟨z1,e1⟩:=Zfh g1;obtain ⟨z2,b2,e2⟩:=Zbdo g2;obtain ⟨z3,b3,e3⟩:=Zbdo g3;obtain ⟨z4,e4⟩:=Zfh g4;obtain ⟨z5,e5⟩:=Zfh g5;obtain ⟨z6,e6⟩:=Zfh g6;obtain ⟨z7,e7⟩:=Zfh g7;obtain ⟨da,dn,dc,bs,e8,hle,hr,hbs⟩:=Zbdm g8;refine ⟨⟨z0,z1,z2,z3,z4,z5,z6,z7,bs⟩,da,dn,dc,fun t ht=>?_,hr,hle,b2,b3,hbs⟩
  match t,ht with
  | 0,_=>exact e0
  | 1,_=>exact e1
  | 2,_=>exact e2
  | 3,_=>exact e3
  | 4,_=>exact e4
  | 5,_=>exact e5
  | 6,_=>exact e6
  | 7,_=>exact e7
  | 8,_=>exact e8
theorem Zbte {l:List Value} {n:Nat} {x:DataW H×List MemPlace} (h:DataW.trod enc Tryz.prog W 0 (fun _=>true) true n Ziz l=some x):
    ∃(d now m by_:Int) (fr:Nat) (ba:Option Addr) (bn bc:Nat) (s:Sg) (da:Option Addr) (dn dc:Nat) (built near:Bool) (bs:List Int),(∀t,t<17->l[t]? =(actL d now m by_ fr ba bn bc s.src s.dst s.seq s.ack s.flags s.win s.urg s.big da dn dc built near)[t]?)∧fr<4294967296∧Reads (hp W) ba bn (bv bs)∧AllB bs∧bn <= bc∧Reads (hp W) da dn (bv s.data)∧AllB s.data∧dn <= dc:=by
  obtain ⟨xs,n1,_,_,hl2,hxl,hf⟩:=DataW.trod_struct Zccr h;have get: ∀(k:Nat) (f:Field),k<9->(#[⟨ "Do",Zl,0,false,"","",0⟩,⟨ "Now",Zl,1,false,"","",8⟩,⟨ "N",Zl,2,false,"","",16⟩,⟨ "By",Zl,3,false,"","",24⟩,⟨ "From",Zgr,4,false,"","",32⟩,⟨ "B",Zd,5,false,"","",40⟩,⟨ "S",Zm,6,false,"","",64⟩,⟨ "Built",Zbs,15,false,"","",144⟩,⟨ "Near",Zbs,16,false,"","",145⟩]:Array Field)[k]? =some f->∃x,DataW.trod enc Tryz.prog W 0 (fun _=>true) true n1 f.type ((l.drop f.offset).take (Tryz.prog.cellsOf f.type))=some x:=by
    intro k f hk he;refine ⟨xs[k]'(by rw [hxl];exact hk),?_⟩
    rw [hf k f he];exact List.getElem?_eq_getElem _
  obtain ⟨_,g0⟩:=get 0 _ (by omega) rfl
  obtain ⟨_,g1⟩:=get 1 _ (by omega) rfl
  obtain ⟨_,g2⟩:=get 2 _ (by omega) rfl
  obtain ⟨_,g3⟩:=get 3 _ (by omega) rfl
  obtain ⟨_,g4⟩:=get 4 _ (by omega) rfl
  obtain ⟨_,g5⟩:=get 5 _ (by omega) rfl
  obtain ⟨_,g6⟩:=get 6 _ (by omega) rfl
  obtain ⟨_,g7⟩:=get 7 _ (by omega) rfl
  obtain ⟨_,g8⟩:=get 8 _ (by omega) rfl
  obtain ⟨z0,e0⟩:=Zfh g0;obtain ⟨z1,e1⟩:=Zfh g1;obtain ⟨z2,e2⟩:=Zfh g2;obtain ⟨z3,e3⟩:=Zfh g3;obtain ⟨z4,b4,e4⟩:=Zbtf g4;obtain ⟨ba,bn,bc,bs,e5,hle,hr,hb⟩:=Zbdm g5;obtain ⟨s,da,dn,dc,hs,hr2,hle2,_,_,hd⟩:=Zbtg g6;obtain ⟨z7,e7⟩:=Zbdl g7;obtain ⟨z8,e8⟩:=Zbdl g8;have hs': ∀t,t<9->l[6+t]? =(sgL s da dn dc)[t]? :=fun t ht=>by have:=hs t ht;change ((l.drop 6).take (Tryz.prog.cellsOf Zm))[t]? =_ at this;rw [Zbtx,List.getElem?_take_of_lt ht,List.getElem?_drop] at this;exact this
  refine ⟨z0,z1,z2,z3,z4,ba,bn,bc,s,da,dn,dc,z7,z8,bs,fun t ht=>?_,b4,hr,hb,hle,hr2,hd,hle2⟩
  match t,ht with
  | 0,_=>exact e0
  | 1,_=>exact e1
  | 2,_=>exact e2
  | 3,_=>exact e3
  | 4,_=>exact e4
  | 5,_=>exact e5
  | 6,_=>exact hs' 0 (by omega)
  | 7,_=>exact hs' 1 (by omega)
  | 8,_=>exact hs' 2 (by omega)
  | 9,_=>exact hs' 3 (by omega)
  | 10,_=>exact hs' 4 (by omega)
  | 11,_=>exact hs' 5 (by omega)
  | 12,_=>exact hs' 6 (by omega)
  | 13,_=>exact hs' 7 (by omega)
  | 14,_=>exact hs' 8 (by omega)
  | 15,_=>exact e7
  | 16,_=>exact e8
  | k+17,hk=>omega
theorem Zbtc {x:Int} {d:DataW H} {ps:List MemPlace} (h:DataW.Trod enc Tryz.prog W 0 (fun _=>true) true Zgr (.int .u32 x) d ps): ∃z:Nat,z<4294967296∧x=z:=by
  obtain ⟨fuel,h⟩:=h;obtain ⟨m,hm,_,hwf⟩:=DataW.trod_int Zbbk h;have hm:x=m:=by simp only [Value.cells,List.cons.injEq,and_true] at hm;cases hm;rfl
  subst hm;have hr:0 <= x∧x<4294967296:=by have hm1:IntKind.u32.min=0:=rfl;have hM:IntKind.u32.max=4294967295:=rfl;simp [Lit.wf,hm1,hM] at hwf;omega
  exact ⟨x.toNat,by omega,by omega⟩
theorem Zbxd {base:Nat} {v:Value} {d:DataW H} {ps:List MemPlace} (hval:Value.okWide Tryz.prog W .any base Znx v) (h:DataW.Trod enc Tryz.prog W 0 (fun _=>true) true Znx v d ps):
    ∃(a:Option Addr) (n c:Nat),v= .slice a n c∧Ziy (hp W) a n:=by
  obtain ⟨a0,n0,c0,rfl⟩:=okWide_slice Zbiz hval;obtain ⟨fuel,h⟩:=h;rcases Go.Deep.open_slice Zbiz h with ⟨h1,_⟩ | ⟨a,len,cap,m,n',D,Pl,h1,_,hlc,_,hm,_,hel⟩;simp only [Value.cells,List.cons.injEq,and_true] at h1;cases h1;exact ⟨_,_,_,rfl,fun i hi=>by omega⟩
  . simp only [Value.cells,List.cons.injEq,and_true] at h1;cases h1;simp only [if_true] at hm;subst hm;refine ⟨_,_,_,rfl,fun i hi=>?_⟩;obtain ⟨cs,hcs,htr⟩:=hel i (by omega)
    rw [Zbdw] at hcs;obtain ⟨_,hl,hcell⟩:=World.cells?_some hcs;obtain ⟨d,now,k,by_,fr,ba,bn,bc,s,da,dn,dc,built,near,bs,hc,r⟩:=Zbte htr;obtain ⟨cs',hcs',_⟩:=hel 0 (by omega)
    rw [Zbdw] at hcs';obtain ⟨_,hl',hcell'⟩:=World.cells?_some hcs';have s0:=hcell' 0 (by omega)
    rw [List.getElem?_eq_getElem (by omega)] at s0
    obtain ⟨hsp,_⟩:=cell_spot (H:=hp W) s0;obtain ⟨b,o,sp⟩:=a;replace hsp:sp=none:=by simpa [Addr.add] using hsp
    subst hsp;refine ⟨b,o,rfl,d,now,k,by_,fr,ba,bn,bc,s,da,dn,dc,built,near,bs,fun t ht=>?_,r⟩;have ea:((⟨b,o,none⟩:Addr).add (i*17)).add t=⟨b,o+i*17+t,none⟩:=by rw [Zdj (a:=⟨b,o,none⟩) rfl (i*17)];exact Zdj rfl t
    rw [Zkc,← ea,hcell t ht];exact hc t ht
end
end Go.Proofs.YtaljkjokbdpdoaaGreat
end
section
set_option maxRecDepth 100000
namespace Go.Proofs.YtaljkjokbdpdoaaGreat
open Go.Sh Go.Pc Go.Conn
structure Tri (N:Nat) (H0 H:Heap) (B:Nat) (G:Gm) (A:Nat->Nat->Prop) (pp:Nat->StP) (sb:Nat->Nat) (S:Nat->Stk) (yb:Nat):Prop where
  le:N <= 2
  reg:Reg H0 H A
  keep:Keep Nil H0 H
  st: ∀k,k<N->StRep H (sb k) (pp k) (S k)
  eqv: ∀k,k<N->∀y,(pp k).G (sb k) y↔A k y
  ty:Ty B G H
  gm: ∀y,G y≠none↔A 2 y
  stk:G yb=some .stack
section
variable {N B B':Nat} {H0 H H':Heap} {G G':Gm} {A A':Nat->Nat->Prop} {pp:Nat->StP} {sb:Nat->Nat} {S:Nat->Stk} {yb k:Nat}
theorem Tri.nil (h:Tri N H0 H B G A pp sb S yb) (k:Keep Nil H H'):Tri N H0 H' B G A pp sb S yb:=
  ⟨h.le,h.reg.keep k,h.keep.trans k,fun i hi=>(h.st i hi).keep k fun _ _ h=>h,h.eqv,h.ty.keep k,h.gm,h.stk⟩
theorem Tri.ref (h:Tri N H0 H B G A pp sb S yb) (t:Ty B' G' H') (x:Ext G H G' H'): ∃A',Tri N H0 H' B' G' A' pp sb S yb∧StepL H A H' A':=by
  have kA:Keep (A 2) H H':=x.kp.mono fun y hy=>(h.gm y).1 hy;have hsub: ∀y,G' y≠none->A 2 y∨H y=none:=fun y hy=>(x.new y hy).imp (h.gm y).1 id;have hle:=h.le;have reg':Reg H0 H' (upA A 2 (fun y=>G' y≠none)):=h.reg.step h.keep kA hsub fun y hy=>t.live hy;refine ⟨_,⟨h.le,reg',h.keep.then kA fun y hy=> .inr (h.reg.new 2 y hy),fun i hi=>(h.st i hi).keep kA fun y hy hz=>h.reg.apart i 2 (by omega) y ((h.eqv i hi y).1 hy) hz,fun i hi y=>by rw [Zbr (by omega)];exact h.eqv i hi y,t,fun y=>by rw [Zdt],x.le.st yb h.stk⟩,⟨fun i hi y hy=>?_,kA.mono fun y hy=>⟨2,by omega,hy⟩,fun y hy=>by rw [Zbr (by omega)];exact hy⟩⟩
  by_cases e:i=2;subst e;rw [Zdt] at hy;exact hsub y hy;rw [Zbr e] at hy;exact .inl hy
theorem Tri.callX (h:Tri N H0 H B G A pp sb S yb) (hk:k<N) {S':Stk} {u:Value} {to:Nat} {bs:List (List Int)} {Hm:Heap} {p':StP} (q1:StRep H' (sb k) p' S') (q2:Keep ((pp k).G (sb k)) H H') (q3: ∀y,p'.G (sb k) y->(pp k).G (sb k) y∨H y=none) (q4:OutRow Hm H' u to bs) (q5:Keep ((pp k).G (sb k)) H Hm) (q6: ∀y,p'.G (sb k) y->Hm y≠none) (hbs: ∀b∈bs,AllB b∧b.length <= 60000):
    ∃A' pp',Tri N H0 H' B G A' pp' sb (upF S k S') yb∧StepL H A H' A'∧OutX H0 H' A' u to bs:=by
  have hle:=h.le;have e0:=h.eqv k hk;have kA:Keep (A k) H H':=q2.mono fun y hy=>(e0 y).1 hy;have hsub: ∀y,p'.G (sb k) y->A k y∨H y=none:=fun y hy=>(q3 y hy).imp (fun e=>(e0 y).1 e) id;have ns: ∀j,j≠k->∀y,A j y->¬A k y:=fun j hj y hy hz=>h.reg.apart j k hj y hy hz;have reg':Reg H0 H' (upA A k (p'.G (sb k))):=h.reg.step h.keep kA hsub fun y hy=>q1.live hy;have hk2:(2:Nat)≠k:=by omega
  have st':StepL H A H' (upA A k (p'.G (sb k))):=by
    refine ⟨fun i hi y hy=>?_,kA.mono fun y hy=>⟨k,by omega,hy⟩,fun y hy=>by rw [Zbr (by omega)];exact hy⟩
    by_cases e:i=k;subst e;rw [Zdt] at hy;exact hsub y hy;rw [Zbr e] at hy;exact .inl hy
  have hm:Keep (A k) H Hm:=q5.mono fun y hy=>(e0 y).1 hy;have free: ∀y,Hm y=none->H' y≠none->Free H' (upA A k (p'.G (sb k))) y:=fun y hn hl=>by refine ⟨hl,fun i hi hy=>?_⟩;by_cases e:i=k;subst e;rw [Zdt] at hy;exact q6 y hy hn;rw [Zbr e] at hy;exact h.reg.live i y hy (q5.free hn)
  refine ⟨upA A k (p'.G (sb k)),upF pp k p',⟨h.le,reg',h.keep.then kA fun y hy=> .inr (h.reg.new k y hy),fun i hi=>?_,fun i hi y=>?_,⟨fun b κ hb=>?_⟩,fun y=>by rw [Zbr hk2];exact h.gm y,h.stk⟩,st',?_⟩
  show StRep H' (sb i) (upF pp k p' i) (upF S k S' i);by_cases e:i=k;subst e;rw [Zce,Zce];exact q1;rw [Zdi e,Zdi e];exact (h.st i hi).keep kA fun y hy=>ns i e y ((h.eqv i hi y).1 hy);show (upF pp k p' i).G (sb i) y↔_;by_cases e:i=k;subst e;rw [Zce,Zdt];rw [Zdi e,Zbr e];exact h.eqv i hi y;obtain ⟨cs,e1,e2⟩:=h.ty.at_ b κ hb;exact ⟨cs,kA.blk e1 (ns 2 hk2 b ((h.gm b).1 (by rw [hb];simp))),e2⟩
  . obtain ⟨a,c,xs,r1,r2,r3,r4⟩:=q4.ex;have ke:Keep (fun _=>True) emp Hm:=⟨fun y hy=>absurd trivial hy,fun y hy=>absurd rfl hy⟩;refine ⟨a,c,xs,r1,r2,r3.mono ke,fun y hy=>?_,fun x hx=>⟨Sh.Own.mono (r4 x hx) ke,fun y hy=>?_,(hbs _ (by rw [← r2];exact List.mem_map.2 ⟨x,hx,rfl⟩)).1,(hbs _ (by rw [← r2];exact List.mem_map.2 ⟨x,hx,rfl⟩)).2⟩⟩
    obtain ⟨cs,hb⟩:=r3.live hy;exact free y (r3.free hy) hb.some;obtain ⟨cs,hb⟩:=Sh.Own.live (r4 x hx) hy;exact ⟨free y (Sh.Own.free (r4 x hx) hy) hb.some,h.keep.free (hm.free (Sh.Own.free (r4 x hx) hy))⟩
end
end Go.Proofs.YtaljkjokbdpdoaaGreat
end
section
set_option maxRecDepth 100000
namespace Go.Proofs.YtaljkjokbdpdoaaGreat
open Go.Sh Go.Pc Go.Conn
section
variable {N B B':Nat} {H0 H H':Heap} {G G':Gm} {A A':Nat->Nat->Prop} {pp:Nat->StP} {sb:Nat->Nat} {S:Nat->Stk} {yb k:Nat}
def RoA (H:Heap) (A:Nat->Nat->Prop) (a:Option Addr) (n:Nat) (l:List Int):Prop:=Reads H a n (bv l)∧(0<n->∀x,a=some x->Free H A x.block)
theorem RoA.step {a:Option Addr} {n:Nat} {l:List Int} (h:RoA H A a n l) (s:StepL H A H' A'):RoA H' A' a n l:=
  ⟨Zbae h.1 s.kp fun h0 x hx=>(h.2 h0 x hx).nz s,fun h0 x hx=>(h.2 h0 x hx).step s⟩
theorem RoA.ro (t:Tri N H0 H B G A pp sb S yb) {a:Option Addr} {n:Nat} {l:List Int} (h:RoA H A a n l):Ro G H a n l:=
  ⟨h.1,fun h0 x hx=>⟨(h.2 h0 x hx).1,by
    cases e:G x.block with
    | none=>rfl
    | some κ=>exact absurd ((t.gm _).1 (by rw [e];simp)) ((h.2 h0 x hx).2 2 (by decide))⟩⟩
theorem Zccj (h:Tri N H0 H B G A pp sb S yb) (hk:k<N) {fr n c:Nat} {a:Option Addr} {l:List Int} (hfr:fr<4294967296) (hn:(S k).now <= 0) (hc:(S k).count<1000000) (ra:RoA H A a n l) (hl:AllB l) (hn4:n <= 60000) (hnc:n <= c):
    FnW Tryz.prog Zln ⟨[.pointer (some ⟨sb k,0,none⟩),.int .i64 0,.int .u32 fr,.slice a n c]⟩ H fun v H'=>∃(u:Value) (wa:Option Addr) (wc:Nat) (A':Nat->Nat->Prop) (pp':Nat->StP),v= .tuple ⟨[u,.slice wa ((S k).take 0 fr l).evs.length wc,.int .i64 0]⟩∧
      Tri N H0 H' B G A' pp' sb (upF S k ((S k).take 0 fr l).S) yb∧StepL H A H' A'∧OutX H0 H' A' u fr (((S k).take 0 fr l).outs.map (outV (S k).me fr)):=by
  have hst:=h.st k hk;have hle:=h.le;refine (take_at hst hfr hn hc (fun H' kk=>Zbae ra.1 kk fun h0 x hx e=>(ra.2 h0 x hx).2 k (by omega) ((h.eqv k hk _).1 (.inl (.inl e)))) hl hn4 hnc).mono ?_
  rintro _ H1 ⟨u,w,rfl,htk⟩;obtain ⟨Hm,He,p',q1,q2,q3,q4,q5,q6,q7,_,_⟩:=htk.ex;obtain ⟨tk1,tk2,tk3⟩:=hst.ok.take (Int.le_refl 0) fr hl;obtain ⟨A1,pp1,h1,st1,ox⟩:=h.callX hk q1 q2 q3 q4 q5 q6 (fun b hb=>by
    obtain ⟨gg,hgg,rfl⟩:=List.mem_map.1 hb;exact Zzv (tk2 gg hgg) _ _)
  obtain ⟨wa,wc,rfl,_⟩:=q7.ex;exact ⟨u,wa,wc,A1,pp1,rfl,h1,st1,ox⟩
theorem Zccg (h:Tri N H0 H B G A pp sb S yb) (hB:B <= 1000000) {d now n by_:Int} {fr:Nat} {i0 i1 i2 i3 i4 i5 i6 i7:Int} {ba da:Option Addr} {bn bc dn dc:Nat} {built near:Bool} (hfr:fr<4294967296) {lB lD:List Int} (rB:RoA H A ba bn lB) (hlB:AllB lB) (hbc:bn <= bc) (rD:RoA H A da dn lD) (hlD:AllB lD) (hdc:dn <= dc):
    FnW Tryz.prog Zpp ⟨[.pointer (some ⟨yb,0,none⟩),.agg ⟨actL d now n by_ fr ba bn bc i0 i1 i2 i3 i4 i5 i6 i7 da dn dc built near⟩]⟩ H fun v H'=>∃(z:Nat) (a:Option Addr) (m c:Nat) (l:List Int),v= .tuple ⟨[.int .u32 (z:Int),.slice a m c]⟩∧z<4294967296∧AllB l∧RoA H' A a m l∧m <= c∧m <= 100∧Keep Nil H H':=by
  refine (Zcig h.ty hB h.stk (by omega) (rB.ro h) hlB hbc (rD.ro h) hlD hdc).mono ?_
  rintro _ H1 ⟨z,a,m,c,l,rfl,hz,hl,ro,hmc,hm,k1,hw⟩;refine ⟨z,a,m,c,l,rfl,hz,hl,⟨ro.1,fun h0 x hx=>?_⟩,hmc,hm,k1⟩;rcases hw with ⟨e,hmb⟩ | hw;subst e;exact (rB.2 (by omega) x hx).step (StepL.nil k1)
  exact ⟨(ro.2 h0 x hx).1,fun i _ hi=>h.reg.live i _ hi (hw x hx)⟩
theorem Zcci (h:Tri N H0 H B G A pp sb S yb) (hB:B <= 700000) {fr n c:Nat} {a:Option Addr} {l:List Int} (hfr:fr<4294967296) (ra:RoA H A a n l) (hl:AllB l) (hn:n <= 100) (hnc:n <= c):
    FnW Tryz.prog Zpo ⟨[.pointer (some ⟨yb,0,none⟩),.int .i64 0,.int .u32 fr,.slice a n c]⟩ H fun v H'=>∃(oa:Option Addr) (on oc:Nat) (ea:Option Addr) (en ec:Nat) (e:Int) (G':Gm) (A':Nat->Nat->Prop),v= .tuple ⟨[.slice oa on oc,.slice ea en ec,.int .i64 e]⟩∧Tri N H0 H' (B+4201) G' A' pp sb S yb∧StepL H A H' A':=by
  refine (Zbzn h.ty hB h.stk (Int.le_refl 0) (fr:=fr) (by omega) (ra.ro h) hl hnc (by omega)).mono ?_
  rintro _ H1 ⟨oa,on,oc,ea,en,ec,e,G1,rfl,h1,x1⟩;obtain ⟨A1,t1,s1⟩:=h.ref (h1.mono (B':=B+4201) (by omega)) x1
  exact ⟨_,_,_,_,_,_,_,G1,A1,rfl,t1,s1⟩
end
end Go.Proofs.YtaljkjokbdpdoaaGreat
end
section
set_option maxRecDepth 100000
namespace Go.Proofs.YtaljkjokbdpdoaaGreat
open Go.Sh Go.Pc Go.Conn
section
variable {H:Heap} {d now n by_ fr i0 i1 i2 i3 i4 i5 i6 i7:Int} {ba da:Option Addr} {bn bc dn dc:Nat} {built near:Bool}
theorem ld17 {b o:Nat} {K:Int->Int->Int->Int->Int->Option Addr->Nat->Nat->Int->Int->Int->Int->Int->Int->Int->Int->Option Addr->Nat->Nat->Bool->Bool->Prop} (h: ∀t,t<17->H.cell ⟨b,o+t,none⟩=(actL d now n by_ fr ba bn bc i0 i1 i2 i3 i4 i5 i6 i7 da dn dc built near)[t]?) (hk:K d now n by_ fr ba bn bc i0 i1 i2 i3 i4 i5 i6 i7 da dn dc built near):
    ∃x0:Int,H.cell ⟨b,o,none⟩=some (Value.int .i64 x0)∧∃x1:Int,H.cell ⟨b,o+1,none⟩=some (Value.int .i64 x1)∧∃x2:Int,H.cell ⟨b,o+2,none⟩=some (Value.int .i64 x2)∧∃x3:Int,H.cell ⟨b,o+3,none⟩=some (Value.int .i64 x3)∧∃x4:Int,H.cell ⟨b,o+4,none⟩=some (Value.int .u32 x4)∧∃(x5a:Option Addr) (x5n x5c:Nat),H.cell ⟨b,o+5,none⟩=some (Value.slice x5a x5n x5c)∧∃x6:Int,H.cell ⟨b,o+6,none⟩=some (Value.int .i64 x6)∧∃x7:Int,H.cell ⟨b,o+7,none⟩=some (Value.int .i64 x7)∧∃x8:Int,H.cell ⟨b,o+8,none⟩=some (Value.int .u32 x8)∧∃x9:Int,H.cell ⟨b,o+9,none⟩=some (Value.int .u32 x9)∧∃x10:Int,H.cell ⟨b,o+10,none⟩=some (Value.int .i64 x10)∧∃x11:Int,H.cell ⟨b,o+11,none⟩=some (Value.int .i64 x11)∧∃x12:Int,H.cell ⟨b,o+12,none⟩=some (Value.int .i64 x12)∧∃x13:Int,H.cell ⟨b,o+13,none⟩=some (Value.int .i64 x13)∧∃(x14a:Option Addr) (x14n x14c:Nat),H.cell ⟨b,o+14,none⟩=some (Value.slice x14a x14n x14c)∧∃x15:Bool,H.cell ⟨b,o+15,none⟩=some (Value.bool x15)∧∃x16:Bool,H.cell ⟨b,o+16,none⟩=some (Value.bool x16)∧K x0 x1 x2 x3 x4 x5a x5n x5c x6 x7 x8 x9 x10 x11 x12 x13 x14a x14n x14c x15 x16:=
  ⟨_,h 0 (by decide),_,h 1 (by decide),_,h 2 (by decide),_,h 3 (by decide),_,h 4 (by decide),_,_,_,h 5 (by decide),_,h 6 (by decide),_,h 7 (by decide),_,h 8 (by decide),_,h 9 (by decide),_,h 10 (by decide),_,h 11 (by decide),_,h 12 (by decide),_,h 13 (by decide),_,_,_,h 14 (by decide),_,h 15 (by decide),_,h 16 (by decide),hk⟩
theorem st17 {q:Nat} {T:TypeId} {v0 v1 v2 v3 v4 v5 v6 v7 v8 v9 v10 v11 v12 v13 v14 v15 v16:Value} {K:Heap->Prop} (hb:Blk H q T ⟨[v0,v1,v2,v3,v4,v5,v6,v7,v8,v9,v10,v11,v12,v13,v14,v15,v16]⟩) (hk: ∀H',Blk H' q T ⟨actL d now n by_ fr ba bn bc i0 i1 i2 i3 i4 i5 i6 i7 da dn dc built near⟩->Keep (fun x=>x=q) H H'->K H'):
    Za H ⟨q,0,none⟩ (.int .i64 d) fun H1=>Za H1 ⟨q,1,none⟩ (.int .i64 now) fun H2=>Za H2 ⟨q,2,none⟩ (.int .i64 n) fun H3=>Za H3 ⟨q,3,none⟩ (.int .i64 by_) fun H4=>Za H4 ⟨q,4,none⟩ (.int .u32 fr) fun H5=>Za H5 ⟨q,5,none⟩ (.slice ba bn bc) fun H6=>Za H6 ⟨q,6,none⟩ (.int .i64 i0) fun H7=>Za H7 ⟨q,7,none⟩ (.int .i64 i1) fun H8=>Za H8 ⟨q,8,none⟩ (.int .u32 i2) fun H9=>Za H9 ⟨q,9,none⟩ (.int .u32 i3) fun H10=>Za H10 ⟨q,10,none⟩ (.int .i64 i4) fun H11=>Za H11 ⟨q,11,none⟩ (.int .i64 i5) fun H12=>Za H12 ⟨q,12,none⟩ (.int .i64 i6) fun H13=>Za H13 ⟨q,13,none⟩ (.int .i64 i7) fun H14=>Za H14 ⟨q,14,none⟩ (.slice da dn dc) fun H15=>Za H15 ⟨q,15,none⟩ (.bool built) fun H16=>Za H16 ⟨q,16,none⟩ (.bool near) K:=by
  refine stL hb (by show 0<17;decide) rfl fun H1 b1 k1=>?_
  replace b1:Blk H1 q T ⟨[.int .i64 d,v1,v2,v3,v4,v5,v6,v7,v8,v9,v10,v11,v12,v13,v14,v15,v16]⟩:=b1;refine stL b1 (by show 1<17;decide) rfl fun H2 b2 k2=>?_
  replace b2:Blk H2 q T ⟨[.int .i64 d,.int .i64 now,v2,v3,v4,v5,v6,v7,v8,v9,v10,v11,v12,v13,v14,v15,v16]⟩:=b2;refine stL b2 (by show 2<17;decide) rfl fun H3 b3 k3=>?_
  replace b3:Blk H3 q T ⟨[.int .i64 d,.int .i64 now,.int .i64 n,v3,v4,v5,v6,v7,v8,v9,v10,v11,v12,v13,v14,v15,v16]⟩:=b3;refine stL b3 (by show 3<17;decide) rfl fun H4 b4 k4=>?_
  replace b4:Blk H4 q T ⟨[.int .i64 d,.int .i64 now,.int .i64 n,.int .i64 by_,v4,v5,v6,v7,v8,v9,v10,v11,v12,v13,v14,v15,v16]⟩:=b4;refine stL b4 (by show 4<17;decide) rfl fun H5 b5 k5=>?_
  replace b5:Blk H5 q T ⟨[.int .i64 d,.int .i64 now,.int .i64 n,.int .i64 by_,.int .u32 fr,v5,v6,v7,v8,v9,v10,v11,v12,v13,v14,v15,v16]⟩:=b5;refine stL b5 (by show 5<17;decide) rfl fun H6 b6 k6=>?_
  replace b6:Blk H6 q T ⟨[.int .i64 d,.int .i64 now,.int .i64 n,.int .i64 by_,.int .u32 fr,.slice ba bn bc,v6,v7,v8,v9,v10,v11,v12,v13,v14,v15,v16]⟩:=b6;refine stL b6 (by show 6<17;decide) rfl fun H7 b7 k7=>?_
  replace b7:Blk H7 q T ⟨[.int .i64 d,.int .i64 now,.int .i64 n,.int .i64 by_,.int .u32 fr,.slice ba bn bc,.int .i64 i0,v7,v8,v9,v10,v11,v12,v13,v14,v15,v16]⟩:=b7;refine stL b7 (by show 7<17;decide) rfl fun H8 b8 k8=>?_
  replace b8:Blk H8 q T ⟨[.int .i64 d,.int .i64 now,.int .i64 n,.int .i64 by_,.int .u32 fr,.slice ba bn bc,.int .i64 i0,.int .i64 i1,v8,v9,v10,v11,v12,v13,v14,v15,v16]⟩:=b8;refine stL b8 (by show 8<17;decide) rfl fun H9 b9 k9=>?_
  replace b9:Blk H9 q T ⟨[.int .i64 d,.int .i64 now,.int .i64 n,.int .i64 by_,.int .u32 fr,.slice ba bn bc,.int .i64 i0,.int .i64 i1,.int .u32 i2,v9,v10,v11,v12,v13,v14,v15,v16]⟩:=b9;refine stL b9 (by show 9<17;decide) rfl fun H10 b10 k10=>?_
  replace b10:Blk H10 q T ⟨[.int .i64 d,.int .i64 now,.int .i64 n,.int .i64 by_,.int .u32 fr,.slice ba bn bc,.int .i64 i0,.int .i64 i1,.int .u32 i2,.int .u32 i3,v10,v11,v12,v13,v14,v15,v16]⟩:=b10;refine stL b10 (by show 10<17;decide) rfl fun H11 b11 k11=>?_
  replace b11:Blk H11 q T ⟨[.int .i64 d,.int .i64 now,.int .i64 n,.int .i64 by_,.int .u32 fr,.slice ba bn bc,.int .i64 i0,.int .i64 i1,.int .u32 i2,.int .u32 i3,.int .i64 i4,v11,v12,v13,v14,v15,v16]⟩:=b11;refine stL b11 (by show 11<17;decide) rfl fun H12 b12 k12=>?_
  replace b12:Blk H12 q T ⟨[.int .i64 d,.int .i64 now,.int .i64 n,.int .i64 by_,.int .u32 fr,.slice ba bn bc,.int .i64 i0,.int .i64 i1,.int .u32 i2,.int .u32 i3,.int .i64 i4,.int .i64 i5,v12,v13,v14,v15,v16]⟩:=b12;refine stL b12 (by show 12<17;decide) rfl fun H13 b13 k13=>?_
  replace b13:Blk H13 q T ⟨[.int .i64 d,.int .i64 now,.int .i64 n,.int .i64 by_,.int .u32 fr,.slice ba bn bc,.int .i64 i0,.int .i64 i1,.int .u32 i2,.int .u32 i3,.int .i64 i4,.int .i64 i5,.int .i64 i6,v13,v14,v15,v16]⟩:=b13;refine stL b13 (by show 13<17;decide) rfl fun H14 b14 k14=>?_
  replace b14:Blk H14 q T ⟨[.int .i64 d,.int .i64 now,.int .i64 n,.int .i64 by_,.int .u32 fr,.slice ba bn bc,.int .i64 i0,.int .i64 i1,.int .u32 i2,.int .u32 i3,.int .i64 i4,.int .i64 i5,.int .i64 i6,.int .i64 i7,v14,v15,v16]⟩:=b14;refine stL b14 (by show 14<17;decide) rfl fun H15 b15 k15=>?_
  replace b15:Blk H15 q T ⟨[.int .i64 d,.int .i64 now,.int .i64 n,.int .i64 by_,.int .u32 fr,.slice ba bn bc,.int .i64 i0,.int .i64 i1,.int .u32 i2,.int .u32 i3,.int .i64 i4,.int .i64 i5,.int .i64 i6,.int .i64 i7,.slice da dn dc,v15,v16]⟩:=b15;refine stL b15 (by show 15<17;decide) rfl fun H16 b16 k16=>?_
  replace b16:Blk H16 q T ⟨[.int .i64 d,.int .i64 now,.int .i64 n,.int .i64 by_,.int .u32 fr,.slice ba bn bc,.int .i64 i0,.int .i64 i1,.int .u32 i2,.int .u32 i3,.int .i64 i4,.int .i64 i5,.int .i64 i6,.int .i64 i7,.slice da dn dc,.bool built,v16]⟩:=b16;refine stL b16 (by show 16<17;decide) rfl fun H17 b17 k17=>?_
  replace b17:Blk H17 q T ⟨[.int .i64 d,.int .i64 now,.int .i64 n,.int .i64 by_,.int .u32 fr,.slice ba bn bc,.int .i64 i0,.int .i64 i1,.int .u32 i2,.int .u32 i3,.int .i64 i4,.int .i64 i5,.int .i64 i6,.int .i64 i7,.slice da dn dc,.bool built,.bool near]⟩:=b17;exact hk H17 b17 ((((((((((((((((k1.trans k2).trans k3).trans k4).trans k5).trans k6).trans k7).trans k8).trans k9).trans k10).trans k11).trans k12).trans k13).trans k14).trans k15).trans k16).trans k17)
theorem Zbsr {q:Nat} {T:TypeId} (hb:Blk H q T ⟨actL d now n by_ fr ba bn bc i0 i1 i2 i3 i4 i5 i6 i7 da dn dc built near⟩): ∀t,t<17->H.cell ⟨q,0+t,none⟩=(actL d now n by_ fr ba bn bc i0 i1 i2 i3 i4 i5 i6 i7 da dn dc built near)[t]? :=fun t ht=>by rw [hb.cell,Nat.zero_add];simp
end
end Go.Proofs.YtaljkjokbdpdoaaGreat
end
section
set_option maxRecDepth 100000
namespace Go.Proofs.YtaljkjokbdpdoaaGreat
open Go.Sh Go.Pc Go.Conn
section
variable {N B B':Nat} {H0 H H':Heap} {G G':Gm} {A A':Nat->Nat->Prop} {pp:Nat->StP} {sb:Nat->Nat} {S:Nat->Stk} {yb k:Nat}
theorem Tri.start (hN:N <= 2) (keep:Keep Nil H0 H) (st: ∀k,k<N->StRep H (sb k) (pp k) (S k)) (new: ∀k,k<N->∀y,(pp k).G (sb k) y->H0 y=none) (dd: ∀i j,i<N->j<N->i≠j->∀y,(pp i).G (sb i) y->¬(pp j).G (sb j) y) (t:Ty B G H) (ng: ∀y,G y≠none->H0 y=none) (dg: ∀k,k<N->∀y,(pp k).G (sb k) y->G y=none) (hy:G yb=some .stack):
    ∃A,Tri N H0 H B G A pp sb S yb:=by
  let A:Nat->Nat->Prop:=fun i y=>if i<N then (pp i).G (sb i) y else if i=2 then G y≠none else False
  have A1: ∀{i:Nat},i<N->A i=(pp i).G (sb i):=fun h=>funext fun y=>if_pos h;have A2:A 2=fun y=>G y≠none:=funext fun y=>by
    show (if 2<N then _ else if 2=2 then _ else _)=_
    rw [if_neg (by omega),if_pos rfl]
  have cs: ∀i y,A i y->(i<N∧(pp i).G (sb i) y)∨(i=2∧G y≠none):=fun i y h=>by
    by_cases e:i<N;rw [A1 e] at h;exact .inl ⟨e,h⟩
    . by_cases e2:i=2;subst e2;rw [A2] at h;exact .inr ⟨rfl,h⟩
      . have:(if i<N then (pp i).G (sb i) y else if i=2 then G y≠none else False):=h
        rw [if_neg e,if_neg e2] at this;exact this.elim
  refine ⟨A,hN,⟨fun i y h=>?_,fun i y h=>?_,fun i j hij y h1 h2=>?_⟩,keep,st,fun i hi y=>by rw [A1 hi],t,fun y=>by rw [A2],hy⟩
  rcases cs i y h with ⟨hi,h⟩ | ⟨_,h⟩;exact (st i hi).live h;exact t.live h;rcases cs i y h with ⟨hi,h⟩ | ⟨_,h⟩;exact new i hi y h;exact ng y h;rcases cs i y h1 with ⟨hi,h1⟩ | ⟨hi,h1⟩<;>rcases cs j y h2 with ⟨hj,h2⟩ | ⟨hj,h2⟩;exact dd i j hi hj hij y h1 h2;exact h2 (dg i hi y h1);exact h1 (dg j hj y h2);omega
theorem Zbwv {me seed:Int} {K:Nat->Heap->Prop} (hK: ∀b H',H b=none->Ty 0 (gset (fun _=>none) b .stack) H'->Keep Nil H H'->K b H'):
    NewW H (.cells ⟨[.int .u32 me,.int .u32 seed,.slice none 0 0,.slice none 0 0,.int .i64 0,.int .i64 0]⟩ Znw) K:=
  Ty.new (B:=0) (G:=fun _=>none) (k:= .stack) ⟨fun b k h=>by cases h⟩ (fun b _=>⟨me,seed,none,0,0,none,0,0,0,0,rfl,.inl ⟨rfl,rfl,rfl⟩,Nat.le_refl _,.inl ⟨rfl,rfl,rfl⟩,Nat.le_refl _⟩) fun b H' hb t _ k=>hK b H' hb t k
end
end Go.Proofs.YtaljkjokbdpdoaaGreat
end
section
set_option maxRecDepth 100000
namespace Go.Proofs.YtaljkjokbdpdoaaGreat
open Go.Sh Go.Pc Go.Conn
section
variable {N B B':Nat} {H0 H H':Heap} {G G':Gm} {A A':Nat->Nat->Prop} {pp:Nat->StP} {sb:Nat->Nat} {S:Nat->Stk} {yb k:Nat}
theorem Tri.arg (h:Tri N H0 H B G A pp sb S yb) {o:Option Addr} {n:Nat} {l:List Int} (r:Reads H0 o n (bv l)):RoA H A o n l:=by
  refine ⟨Zbyx r fun y hy=>h.keep.same y id hy,fun h0 x hx=>?_⟩;subst hx;obtain ⟨_,c,T,fr,hb,_⟩:=r.2 h0;have hl:H0 x.block≠none:=by rw [hb];simp
  exact ⟨h.keep.live _ hl,fun i _ hi=>hl (h.reg.new i _ hi)⟩
theorem Zbeb {b o:Nat} {v:Value} (h:H.cell ⟨b,o,none⟩=some v):H b≠none:=fun e=>by simp only [Heap.cell,e] at h;cases h
theorem Zns.keep {b o:Nat} (h:Zns H b o) (k:Keep Nil H H'):Zns H' b o:=by
  obtain ⟨d,now,n,by_,fr,ba,bn,bc,s,da,dn,dc,built,near,bs,hc,h1,r1,h2,h3,r2,h4,h5⟩:=h;have hl:H b≠none:=Zbeb (hc 0 (by decide))
  refine ⟨d,now,n,by_,fr,ba,bn,bc,s,da,dn,dc,built,near,bs,fun t ht=>?_,h1,r1.keep k fun _ _ h=>h,h2,h3,r2.keep k fun _ _ h=>h,h4,h5⟩;rw [← hc t ht];simp only [Heap.cell];rw [k.same b id hl]
theorem Ziy.keep {a:Option Addr} {n:Nat} (h:Ziy H a n) (k:Keep Nil H H'):Ziy H' a n:=fun i hi=>by obtain ⟨b,o,e,ha⟩:=h i hi;exact ⟨b,o,e,ha.keep k⟩
end
end Go.Proofs.YtaljkjokbdpdoaaGreat
end
section
set_option maxRecDepth 100000
namespace Go.Proofs.YtaljkjokbdpdoaaGreat
open Go.Sh Go.Pc Go.Conn
section
variable {N B B':Nat} {H0 H H':Heap} {G G':Gm} {A A':Nat->Nat->Prop} {pp:Nat->StP} {sb:Nat->Nat} {S:Nat->Stk} {yb k:Nat}
end
end Go.Proofs.YtaljkjokbdpdoaaGreat
end
section
set_option maxRecDepth 100000
namespace Go.Proofs.YtaljkjokbdpdoaaGreat
open Go.Sh Go.Pc Go.Conn
section
variable {H0 H H':Heap} {A A':Nat->Nat->Prop}
theorem OutX.len {a:Option Addr} {n c to:Nat} {bs:List (List Int)} (h:OutX H0 H A (.slice a n c) to bs):n=bs.length:=by obtain ⟨a',c',xs,e,hm,_⟩:=h.ex;cases e;rw [← hm,List.length_map]
theorem OutX.at_ {a:Option Addr} {n c to i:Nat} {z:Int} {bs:List (List Int)} {K:Addr->Prop} (h:OutX H0 H A (.slice a n c) to bs) (hz:z=i) (hi:i<n) (hK: ∀q b (x:Option Addr) m d,bs[i]? =some b->H.cell ⟨q,0+i*2,none⟩=some (.int .u32 (to:Int))->H.cell ⟨q,0+i*2+1,none⟩=some (.slice x m d)->Reads H x m (bv b)->AllB b->m <= d->m <= 60000->K ⟨q,0+i*2,none⟩):
    NilP a fun q=>InB z n fun m=>elemAt q m 2 K:=by
  obtain ⟨a',c',xs,e,hm,ho,_,hr⟩:=h.ex;cases e;have hg:xs[i]? =some (xs[i]):=List.getElem?_eq_getElem hi;have hX:=hr _ (List.getElem_mem hi);have hb:bs[i]? =some (xs[i].1):=by rw [← hm,List.getElem?_map,hg];rfl
  generalize xs[i]=x at hg hX hb;obtain ⟨g1,g2⟩:=Zzu to xs i x hg;rcases ho.2.2 with ⟨_,e0,_⟩ | ⟨q,rest,rfl,_,hB,_⟩;omega;refine NilP.intro _ rfl (InB.intro i hz hi ?_);rw [Zw];have hri:Reads H (some ⟨q,0,none⟩) (xs.length*2) (outL to xs):=ho.reads;have c0:=hri.cell (j:=i*2) (by omega)
  have c1:=hri.cell (j:=i*2+1) (by omega)
  rw [g1] at c0;rw [g2] at c1;have r:=Sh.Own.reads hX.own;rw [Nat.mul_one] at r;exact hK q x.1 x.2.1 x.1.length x.2.2 hb c0 c1 r hX.ok (Sh.Own.le hX.own) hX.len
end
end Go.Proofs.YtaljkjokbdpdoaaGreat
end
section
set_option maxRecDepth 100000
namespace Go.Proofs.YtaljkjokbdpdoaaGreat
open Go.Sh Go.Pc Go.Conn
section
variable {H0 H H1 H':Heap} {G G':Gm} {A A':Nat->Nat->Prop} {pp:Nat->StP} {sb:Nat->Nat} {S:Nat->Stk} {yb k B:Nat}
theorem Zbfn {a:Option Addr} {n:Nat} {ys:List Int} (hr:Reads H a n (ivs ys)) {i:Nat} {z:Int} (hz:z=i) (hi:i<n) {Q:Int->Prop} (h:Q (ys.getD i 0)):NilP a fun q=>InB z n fun m=>elemAt q m 1 fun p=>∃x:Int,H.cell p=some (.int .i64 x)∧Q x:=by
  have hl:ys.length=n:=by have:=hr.len;simpa [ivs] using this
  cases a with
  | none=>have:=hr.2;simp only at this;omega
  | some a=>
    refine NilP.intro _ rfl (InB.intro i hz hi ?_);have hc:=hr.cell hi;have e2:=(hr.2 (by omega)).1
    obtain ⟨b,o,f⟩:=a;simp only at e2;subst e2;rw [Zw,Nat.mul_one];refine ⟨_,?_,h⟩;rw [hc];unfold ivs;rw [List.getElem?_map,List.getElem?_eq_getElem (by omega),List.getD_eq_getElem?_getD,List.getElem?_eq_getElem (by omega)]
    rfl
theorem Zcbs (h:StRep H (sb 0) (pp 0) (S 0)) {me:Int} {aa:Option Addr} {an ac:Nat} {i:Int} {next next':(Int×Unit)->Heap->Prop} {R:Value->Heap->Prop} (hK: ∀H',Keep Nil H H'->next (IntKind.wrap .i64 (i+1),()) H'):
    FnW Tryz.prog Zoq ⟨[.pointer (some ⟨sb 0,0,none⟩)]⟩ H fun v H2=>∃(a:Option Addr) (n c:Nat),v= .slice a n c∧Zbe (Int×Unit) (1,()) H2 fun x H next16=>∀_g:Env,Zbbr me aa an ac (some ⟨sb 0,0,none⟩) yb i a n c next next' x.1 H next16 R:=by
  refine (Zbvn h).mono ?_;rintro _ H2 ⟨a,c,ys,rfl,k2,hst,hl,hr⟩;refine ⟨a,_,c,rfl,Zbo (fun m s Hx=>Hx=H2∧∃j:Nat,s=((j:Int),())∧1 <= j∧m+j=ys.length+1) ys.length ⟨rfl,1,rfl,by omega,by omega⟩ ?_⟩
  rintro m s Hx ⟨e,j,rfl,hj,hm⟩ g;rw [e];clear e;unfold Zbbr;refine IfB.intro (fun e=>?_) fun e=>ifF (decide_eq_false (by omega)) (hK H2 k2)
  have e:=of_decide_eq_true e;simp only at e;refine Zbfn hr (i:=j - 1) (by rw [Zi (by omega) (by omega)];omega) (by omega) (Zbfn hr (i:=j) rfl (by omega) ?_)
  have:=Zcbm hst hj (by omega)
  exact ifF (decide_eq_false (by omega)) ⟨m - 1,by omega,rfl,j+1,Prod.ext (by rw [Zi (by omega) (by omega)];show _=((j+1:Nat):Int);omega) rfl,by omega,by omega⟩
theorem Zcbt (h:Tri 1 H0 H B G A pp sb S yb) {me:Nat} (hme:me<4294967296) {fr:Nat} (hfr:fr<4294967296) {gs:List Sg} (hg: ∀g∈gs,Goes g) {oa:Option Addr} {on oc:Nat} (ox:OutX H0 H A (.slice oa on oc) fr (gs.map (outV me fr))) (hn:on <= 100000) {aa:Option Addr} {an ac:Nat} {i:Int} {next:(Int×Unit)->Heap->Prop} {R:Value->Heap->Prop} (hK: ∀H',Keep Nil H H'->next (IntKind.wrap .i64 (i+1),()) H'):
    Zbe (Int×Unit) (0,()) H fun x H next16=>∀_g:Env,Zbbq (me:Int) aa an ac (some ⟨sb 0,0,none⟩) yb i (fr:Int) oa on oc next x.1 H next16 R:=by
  have hlen:=ox.len;refine Zbo (fun m s Hx=>Keep Nil H Hx∧∃j:Nat,s=((j:Int),())∧m+j=on) on ⟨Keep.refl _ _,0,rfl,rfl⟩ ?_;rintro m s Hx ⟨kx,j,rfl,hm⟩ g;have tx:=h.nil kx;have oxx:=ox.step (StepL.nil kx);unfold Zbbq;refine IfB.intro (fun e=>?_) fun e=>Zcbs (tx.st 0 (by decide)) fun H' k=>hK H' (kx.trans k)
  have e:=of_decide_eq_true e;simp only at e;have hjn:j<on:=by omega
  have w1:IntKind.wrap .i64 ((j:Int)+1)=((j+1:Nat):Int):=by rw [Zi (by omega) (by omega)];omega
  refine oxx.at_ rfl hjn fun q b xx m1 d1 hb c0 c1 r1 hb1 hd hm1=>⟨_,c0,oxx.at_ rfl hjn fun q2 b2 yy m2 d2 hb2 f0 f1 r2 hb2' hd2 hm2=>⟨_,_,_,f1,?_⟩⟩;obtain ⟨g,hgm,rfl⟩: ∃g∈gs,outV me fr g=b2:=by
    rw [List.getElem?_map] at hb2;cases hgj:gs[j]? with
    | none=>rw [hgj] at hb2;cases hb2
    | some g=>rw [hgj] at hb2;exact ⟨g,List.mem_of_getElem? hgj,Option.some.inj hb2⟩
  obtain ⟨s,hs⟩:=Zbyw me fr (hg g hgm).can;have rest: ∀H',Keep Nil H H'->Zsb (me:Int) aa an ac (some ⟨sb 0,0,none⟩) yb i (fr:Int) oa on oc (j:Int) next (fun x' H'=>∃k'<m,Keep Nil H H'∧∃j:Nat,x'=((j:Int),())∧k'+j=on) 0 H' R:=fun H' k'=>by have ox':=ox.step (StepL.nil k');unfold Zsb;refine ifF rfl (ox'.at_ rfl hjn fun q b xx m1 d1 hb c0 c1 r1 hb1 hd hm1=>⟨_,c0,?_⟩);unfold Zbbp;exact ifF (by simp) ⟨m - 1,by omega,k',j+1,Prod.ext w1 rfl,by omega⟩
  refine ⟨newB fun z Hz hz bz kz=>?_,?_⟩
  . refine (Zuy hme hfr (r2.keep kz fun _ _ h=>h) hb2' hd2 (by omega)).mono ?_
    rintro _ Hy ⟨hR,ky⟩;rw [hs] at hR;obtain ⟨sa,sc,rfl,_⟩:=hR;exact ⟨_,_,_,_,_,_,_,_,_,_,_,_,rfl,st9x (ky.blk bz fun h=>h) fun H9 _ k9=>rest H9 (((kx.trans kz).trans ky).then k9 fun y hy=> .inr (hy▸kx.free hz))⟩
  . refine (Zuy hme hfr r2 hb2' hd2 (by omega)).mono ?_
    rintro _ Hy ⟨hR,ky⟩;rw [hs] at hR;obtain ⟨sa,sc,rfl,_⟩:=hR;exact ⟨_,_,_,_,_,_,_,_,_,_,_,_,rfl,newB fun z Hz hz bz kz=>st9x bz fun H9 _ k9=>rest H9 (((kx.trans ky).trans kz).then k9 fun y hy=> .inr (hy▸(kx.trans ky).free hz))⟩
end
end Go.Proofs.YtaljkjokbdpdoaaGreat
end
section
set_option maxRecDepth 100000
namespace Go.Proofs.YtaljkjokbdpdoaaGreat
open Go.Sh Go.Pc Go.Conn
structure SmSt (H1 H:Heap) (me:Nat) (sb:Nat->Nat) (yb i:Nat):Prop where
  ex: ∃G A pp S,Tri 1 H1 H (1+4201*i) G A pp sb S yb∧(S 0).me=me∧(S 0).now <= 0∧(S 0).count <= i
section
variable {N B B':Nat} {H0 H1 H H':Heap} {G G':Gm} {A A':Nat->Nat->Prop} {pp:Nat->StP} {sb:Nat->Nat} {S:Nat->Stk} {yb k i:Nat}
theorem SmSt.nil {me:Nat} (h:SmSt H1 H me sb yb i) (k:Keep Nil H H'):SmSt H1 H' me sb yb i:=by obtain ⟨G,A,pp,S,t,r⟩:=h.ex;exact ⟨G,A,pp,S,t.nil k,r⟩
theorem Zcch (h:Tri N H0 H B G A pp sb S yb) (hk:k<N) {n:Int} (hp:Zbf n=true) (hc:(S k).ports.contains n=false) (hl:(S k).ports.length<8):
    FnW Tryz.prog Zlm ⟨[.pointer (some ⟨sb k,0,none⟩),.int .i64 n]⟩ H fun v H'=>∃(A':Nat->Nat->Prop) (pp':Nat->StP),v= .int .i64 0∧Tri N H0 H' B G A' pp' sb (upF S k { S k with ports:=(S k).ports++[n] }) yb:=by
  refine (Zbcz (h.st k hk) hp hc hl).mono ?_;rintro _ H2 ⟨p',rfl,q1,q2,q3⟩;obtain ⟨A1,pp1,t,_,_⟩:=h.callX (u:= .slice none 0 0) (to:=0) (bs:=[]) hk q1 q2 q3 ⟨none,0,[],rfl,rfl,Sh.Own.nil,fun x hx=>by cases hx⟩ q2 (fun y hy=>q1.live hy) (fun b hb=>by cases hb)
  exact ⟨A1,pp1,rfl,t⟩
theorem Zcbr {me:Nat} (hme:me<4294967296) (h:SmSt H1 H me sb yb i) (hi:i<40) {aa:Option Addr} {an ac:Nat} (ha:Ziy H1 aa an) (hin:i<an) {next:(Int×Unit)->Heap->Prop} {R:Value->Heap->Prop} (hK: ∀H',SmSt H1 H' me sb yb (i+1)->next (IntKind.wrap .i64 ((i:Int)+1),()) H'):
    Zks (me:Int) aa an ac (some ⟨sb 0,0,none⟩) yb (i:Int) next true H R:=by
  obtain ⟨b,o,rfl,d,now,n,by_,fr,ba,bn,bc,s,da,dn,dc,built,near,bs,hc,hfr,rB,hB,hbc,rD,hD,hdc⟩:=ha i hin;have hl:H1 b≠none:=Zbeb (hc 0 (by decide))
  obtain ⟨G0,A0,p0,S0,t0,_⟩:=h.ex;have hcH: ∀t',t'<17->H.cell ⟨b,o+i*17+t',none⟩=(actL d now n by_ fr ba bn bc s.src s.dst s.seq s.ack s.flags s.win s.urg s.big da dn dc built near)[t']? :=fun t' ht=>by rw [← hc t' ht];simp only [Heap.cell];rw [t0.keep.same b id hl]
  unfold Zks;refine ifT rfl (NilP.intro _ rfl (InB.intro i rfl hin ?_));rw [Zw];refine ld17 hcH (newB fun q Ha hq b1 k1=>st17 b1 fun Hb b2 k2=>?_);have k0:Keep Nil H Hb:=k1.then k2 fun y hy=> .inr (hy▸hq);obtain ⟨G,A,pp,S,t,e1,e2,e3⟩:=(h.nil k0).ex;refine ld17 (o:=0) (Zbsr b2) ((Zccg t (by omega) hfr (t.arg rB) hB hbc (t.arg rD) hD hdc).mono ?_)
  rintro _ H2 ⟨z,a,m,c,l,rfl,hz,hl2,ra,hmc,hm,k2⟩;have t2:=t.nil k2;refine ⟨_,_,_,_,rfl,(Zcci t2 (by omega) hz ra hl2 hm hmc).mono ?_⟩
  rintro _ H3 ⟨oa,on,oc,ea,en,ec,e,G3,A3,rfl,t3,s3⟩;have ra3:=ra.step s3;refine ⟨_,_,_,_,_,_,_,rfl,(Zccj t3 (k:=0) (by decide) hz e2 (by omega) ra3 hl2 (by omega) hmc).mono ?_⟩
  rintro _ H4 ⟨u,wa,wc,A4,pp4,rfl,t4,s4,ox⟩;obtain ⟨ua,un,uc,rfl⟩:=ox.slice;obtain ⟨m1,m2,m3⟩:=Zbiv (S 0) 0 z l;obtain ⟨tk1,tk2,tk3⟩:=(t3.st 0 (by decide)).ok.take (Int.le_refl 0) z hl2
  have hlen:un <= 100000:=by have:=ox.len;rw [this,List.length_map];omega
  rw [e1] at ox;refine ⟨_,_,_,_,_,_,_,rfl,ifF rfl (Zcbt t4 hme hz tk2 ox hlen fun H' k'=>hK H' ?_)⟩;refine ⟨G3,A4,pp4,_,⟨t4.le,t4.reg.keep k',t4.keep.trans k',(t4.nil k').st,t4.eqv,(t4.nil k').ty.mono (by omega),t4.gm,t4.stk⟩,?_,?_,?_⟩
  rw [Zce,m1];exact e1;rw [Zce,m2];exact Int.le_refl 0;rw [Zce];omega
theorem Zcbu {me seed:Nat} (hme:me<4294967296) (hs:seed<4294967296) {aa:Option Addr} {an ac:Nat} (ha:Ziy H aa an):FnW Tryz.prog Zbeq ⟨[.int .u32 me,.int .u32 seed,.slice aa an ac]⟩ H fun v H'=>v= .bool true∧Keep Nil H H':=by
  refine Zcdy me seed aa an ac ?_;unfold Zbkh;refine Zcda.mono ?_;rintro _ H1 ⟨rfl,kw⟩;have ha1:=ha.keep kw;refine ⟨_,rfl,ifF rfl ((Zux (me:=me) hme hs).mono ?_)⟩;rintro _ H2 ⟨xb,px,rfl,hx,k12,nx⟩;refine ⟨_,rfl,Zbwv fun yb H3 hyb ty k23=>?_⟩;have gy: ∀y,gset (fun _=>none) yb .stack y≠none->y=yb:=fun y h=>Classical.byContradiction fun e=>h (Zfb e)
  obtain ⟨A,t⟩:=Tri.start (N:=1) (H0:=H1) (H:=H3) (B:=0) (G:=gset (fun _=>none) yb .stack) (S:=fun _=>newS me seed) (pp:=fun _=>px) (sb:=fun _=>xb) (yb:=yb) (by decide) (k12.trans k23) (fun k hk=>hx.keep k23 fun _ _ h=>h) (fun k hk y hy=>nx y hy) (fun i j hi hj hij=>absurd (by omega) hij) ty (fun y hy=>by rw [gy y hy];exact k12.free hyb) (fun k hk y hy=>Classical.byContradiction fun e=>by
      have:=gy y e;subst this;exact (hx.live hy) hyb) Zda
  refine (Zcch t (k:=0) (by decide) (n:=179) (by decide) rfl (by show 0<8;decide)).mono ?_
  rintro _ H4 ⟨A4,p4,rfl,t4⟩;refine ⟨_,rfl,(Zbzm t4.ty (by decide) t4.stk 179).mono ?_⟩
  rintro _ H5 ⟨z,G5,rfl,h5,x5⟩;obtain ⟨A5,t5,_⟩:=t4.ref h5 x5;refine ⟨_,rfl,Zbo (fun m s Hi=>∃i:Nat,s=((i:Int),())∧m+i=40∧SmSt H1 Hi me (fun _=>xb) yb i) 40 ⟨0,rfl,rfl,⟨_,_,_,_,t5,by rw [Zce];rfl,by rw [Zce];exact Int.le_refl 0,by rw [Zce];exact Nat.le_refl 0⟩⟩ ?_⟩
  rintro m s Hi ⟨i,rfl,hm,hi⟩ g;unfold Zbkg;have fin:Zks (me:Int) aa an ac (some ⟨xb,0,none⟩) yb (i:Int) (fun x' H'=>∃k'<m,∃i:Nat,x'=((i:Int),())∧k'+i=40∧SmSt H1 H' me (fun _=>xb) yb i) false Hi fun v H1=>∀H2,Shut H H1 H2->v= .bool true∧Keep Nil H H2:=by unfold Zks;obtain ⟨_,_,_,_,t,_⟩:=hi.ex;exact ifF rfl fun H8 hs=>⟨rfl,Zk (kw.trans t.keep) hs⟩
  refine IfB.intro (fun e=>?_) fun e=>fin;have e:=of_decide_eq_true e;simp only at e;cases e2:decide ((i:Int)<40);exact fin;have e2:=of_decide_eq_true e2;exact Zcbr (sb:=fun _=>xb) hme hi (by omega) ha1 (by omega) fun H' h'=>⟨m - 1,by omega,i+1,Prod.ext (by rw [Zi (by omega) (by omega)];rfl) rfl,by omega,h'⟩
end
end Go.Proofs.YtaljkjokbdpdoaaGreat
end
